/-
  The deep code does what the functions of the shallow text say: printed by lift.py.
-/
import Derived.Test.YtdcdidecehbplaaGreatDoorProg
import Derived.Test.YtdcdidecehbplaaGreatDoorSh
set_option linter.unusedVariables false
set_option linter.unusedSimpArgs false
namespace Go.Proofs.YtdcdidecehbplaaGreatDoor
open Go Go.Lift Go.Sh
set_option maxRecDepth 100000
set_option maxHeartbeats 4000000
attribute [local irreducible] Calls AtL AtC AtE AtD Eff Quiet1 Stg qAt QAll eAt EAll nextK Code.wp

def T : TTab := [(3, .int .i64, 1, 8, [Value.int .i64 0]), (4, .bool, 1, 1, [Value.bool false]), (5, .int .u8, 1, 1, [Value.int .u8 0]), (9, .string, 1, 16, [Value.string (ByteArray.mk #[])]), (23, .slice 56, 1, 24, [Sl.toV Sl.nil]), (25, .struct #[⟨ "Neg", 4, 0, false, "", "", 0⟩, ⟨ "Mag", 23, 1, false, "", "", 8⟩], 2, 32, [Value.bool false, Sl.toV Sl.nil]), (27, .struct #[⟨ "Num", 25, 0, false, "", "", 0⟩, ⟨ "Den", 23, 2, false, "", "", 32⟩], 3, 56, [Value.bool false, Sl.toV Sl.nil, Sl.toV Sl.nil]), (32, .slice 3, 1, 24, [Sl.toV Sl.nil]), (34, .struct #[⟨ "Neg", 4, 0, false, "", "", 0⟩, ⟨ "Num", 32, 1, false, "", "", 8⟩, ⟨ "Den", 32, 2, false, "", "", 32⟩], 3, 56, [Value.bool false, Sl.toV Sl.nil, Sl.toV Sl.nil]), (55, .slice 27, 1, 24, [Sl.toV Sl.nil]), (56, .int .u32, 1, 4, [Value.int .u32 0]), (80, .struct #[⟨ "limbs", 3, 0, false, "", "steelyard/nat", 0⟩, ⟨ "over", 4, 1, false, "", "steelyard/nat", 8⟩], 2, 16, [Value.int .i64 0, Value.bool false]), (90, .int .u64, 1, 8, [Value.int .u64 0]), (91, .slice 5, 1, 24, [Sl.toV Sl.nil]), (95, .int .u64, 1, 8, [Value.int .u64 0]), (101, .struct #[⟨ "addr", 99, 0, false, "", "strings", 0⟩, ⟨ "buf", 91, 1, false, "", "strings", 8⟩], 2, 32, [Value.pointer none, Sl.toV Sl.nil]), (118, .array 2 23, 2, 48, [Sl.toV Sl.nil, Sl.toV Sl.nil]), (128, .array 32 5, 32, 32, [Value.int .u8 0, Value.int .u8 0, Value.int .u8 0, Value.int .u8 0, Value.int .u8 0, Value.int .u8 0, Value.int .u8 0, Value.int .u8 0, Value.int .u8 0, Value.int .u8 0, Value.int .u8 0, Value.int .u8 0, Value.int .u8 0, Value.int .u8 0, Value.int .u8 0, Value.int .u8 0, Value.int .u8 0, Value.int .u8 0, Value.int .u8 0, Value.int .u8 0, Value.int .u8 0, Value.int .u8 0, Value.int .u8 0, Value.int .u8 0, Value.int .u8 0, Value.int .u8 0, Value.int .u8 0, Value.int .u8 0, Value.int .u8 0, Value.int .u8 0, Value.int .u8 0, Value.int .u8 0])]
theorem hT : TTab.Ok Tryz.prog T := TTab.ok_cons (by kernel_rfl) (by kernel_rfl) (TTab.ok_cons (by kernel_rfl) (by kernel_rfl) (TTab.ok_cons (by kernel_rfl) (by kernel_rfl) (TTab.ok_cons (by kernel_rfl) (by kernel_rfl) (TTab.ok_cons (by kernel_rfl) (by kernel_rfl) (TTab.ok_cons (by kernel_rfl) (by kernel_rfl) (TTab.ok_cons (by kernel_rfl) (by kernel_rfl) (TTab.ok_cons (by kernel_rfl) (by kernel_rfl) (TTab.ok_cons (by kernel_rfl) (by kernel_rfl) (TTab.ok_cons (by kernel_rfl) (by kernel_rfl) (TTab.ok_cons (by kernel_rfl) (by kernel_rfl) (TTab.ok_cons (by kernel_rfl) (by kernel_rfl) (TTab.ok_cons (by kernel_rfl) (by kernel_rfl) (TTab.ok_cons (by kernel_rfl) (by kernel_rfl) (TTab.ok_cons (by kernel_rfl) (by kernel_rfl) (TTab.ok_cons (by kernel_rfl) (by kernel_rfl) (TTab.ok_cons (by kernel_rfl) (by kernel_rfl) (TTab.ok_cons (by kernel_rfl) (by kernel_rfl) (TTab.ok_nil _))))))))))))))))))
theorem hmix : Tryz.prog.follows .mixedOrders = true := by kernel_rfl

theorem lift_nat_New (limbs : Int) (w : World) (m : Heap) (hr : Rel ⟨m, []⟩ w.heap) (S : ((Option Addr)) → Heap → Prop) (H : nat_New limbs m S) :
    Calls Tryz.prog 33 #[Value.int .i64 limbs] w (Post ⟨w, m⟩ Value.pointer S) := by
  refine Calls.lift (args := [Value.int .i64 limbs]) Tryz.func33 rfl Tryz.ntmps33 (Nat.le_of_ble_eq_true rfl) hr (nat_New limbs m S) H (fun H => ?_)
  refine AtC.pick (ts := [0]) rfl ?_
  unfold nat_New at H
  refine AtC.seqR ?_
  refine AtL.pures hT 1 _ _ _ _ rfl ?_
  refine AtL.nil ?_
  refine AtE.then_n (AtE.go ?_)
  refine AtC.seqR ?_
  refine AtL.pures hT 2 _ _ _ _ rfl ?_
  refine AtL.q rfl (Quiet1.build (cs := [_, _]) hT rfl rfl rfl rfl rfl rfl) ?_
  refine AtL.e rfl (EffX.box (cs := [_, _]) rfl rfl rfl H) ?_
  rintro _ _ ⟨a, h0, rfl, rfl, H⟩
  refine AtL.pures hT 1 _ _ _ _ rfl ?_
  refine AtL.nil ?_
  refine AtE.then_n (AtE.go ?_)
  refine AtC.ret ?_
  exact AtE.retN (rs := [.tmp 2]) rfl (ResAll.cons (ResAt.tmp rfl) ResAll.nil) rfl H

theorem lift_internal_stringslite_IndexByte (s0 : ByteArray) (c : Int) (w : World) (m : Heap) (hr : Rel ⟨m, []⟩ w.heap) (S : Int → Heap → Prop) (H : internal_stringslite_IndexByte s0 c m S) :
    Calls Tryz.prog 96 #[Value.string s0, Value.int .u8 c] w (Post ⟨w, m⟩ (Value.int .i64) S) := by
  refine Calls.lift (args := [Value.string s0, Value.int .u8 c]) Tryz.func96 rfl Tryz.ntmps96 (Nat.le_of_ble_eq_true rfl) hr (internal_stringslite_IndexByte s0 c m S) H (fun H => ?_)
  refine AtC.pick (ts := [0, 1]) rfl ?_
  unfold internal_stringslite_IndexByte at H
  refine AtC.seqR ?_
  refine AtL.pures hT 1 _ _ _ _ rfl ?_
  refine AtL.nil ?_
  refine AtE.then_n (AtE.go ?_)
  refine AtC.seqR ?_
  refine AtL.pures hT 2 _ _ _ _ rfl ?_
  refine AtL.e rfl (EffX.extIdx rfl rfl Tryz.func103 (by kernel_rfl) (by kernel_rfl) (by kernel_rfl) (by kernel_rfl) H) ?_
  rintro _ _ ⟨v, h0, rfl, rfl, H⟩
  refine AtL.pures hT 1 _ _ _ _ rfl ?_
  refine AtL.nil ?_
  refine AtE.then_n (AtE.go ?_)
  refine AtC.ret ?_
  exact AtE.retN (rs := [.tmp 4]) rfl (ResAll.cons (ResAt.tmp rfl) ResAll.nil) rfl H

theorem lift_internal_bytealg_Cutover (n : Int) (w : World) (m : Heap) (hr : Rel ⟨m, []⟩ w.heap) (S : Int → Heap → Prop) (H : internal_bytealg_Cutover n m S) :
    Calls Tryz.prog 98 #[Value.int .i64 n] w (Post ⟨w, m⟩ (Value.int .i64) S) := by
  refine Calls.lift (args := [Value.int .i64 n]) Tryz.func98 rfl Tryz.ntmps98 (Nat.le_of_ble_eq_true rfl) hr (internal_bytealg_Cutover n m S) H (fun H => ?_)
  refine AtC.pick (ts := [0]) rfl ?_
  unfold internal_bytealg_Cutover at H
  refine AtC.seqR ?_
  refine AtL.pures hT 1 _ _ _ _ rfl ?_
  refine AtL.nil ?_
  refine AtE.then_n (AtE.go ?_)
  refine AtC.seqR ?_
  refine AtL.pures hT 4 _ _ _ _ rfl ?_
  refine AtL.nil ?_
  refine AtE.then_n (AtE.go ?_)
  refine AtC.ret ?_
  exact AtE.retN (rs := [.tmp 2]) rfl (ResAll.cons (ResAt.tmp rfl) ResAll.nil) rfl H

theorem lift_internal_bytealg_hashStr_string (sep : ByteArray) (w : World) (m : Heap) (hr : Rel ⟨m, []⟩ w.heap) (S : (Int × Int) → Heap → Prop) (H : internal_bytealg_hashStr_string sep m S) :
    Calls Tryz.prog 104 #[Value.string sep] w (Post ⟨w, m⟩ (fun r => Value.tuple #[(Value.int .u32) r.1, (Value.int .u32) r.2]) S) := by
  refine Calls.lift (args := [Value.string sep]) Tryz.func104 rfl Tryz.ntmps104 (Nat.le_of_ble_eq_true rfl) hr (internal_bytealg_hashStr_string sep m S) H (fun H => ?_)
  refine AtC.pick (ts := [0]) rfl ?_
  unfold internal_bytealg_hashStr_string at H
  refine AtC.seqR ?_
  refine AtL.pures hT 2 _ _ _ _ rfl ?_
  refine AtL.nil ?_
  refine AtE.then_n (AtE.go ?_)
  refine AtC.seqR ?_
  refine AtL.pures hT 1 _ _ _ _ rfl ?_
  refine AtL.nil ?_
  refine AtE.then_n (AtE.go ?_)
  refine AtC.seq ?_
  refine AtC.seqR ?_
  refine AtL.pures hT 1 _ _ _ _ rfl ?_
  refine AtL.nil ?_
  refine AtE.then_n (AtE.go ?_)
  refine AtC.block ?_
  refine AtC.loopM (fun (s0 : Int × Int) => [(4, Value.int .u32 s0.1), (5, Value.int .i64 s0.2)]) (fun (s0 : Int × Int) => []) [0] [4, 5, 0] [] [] H (by exact rfl) (by exact rfl) (by exact rfl) (by decide) (by exact rfl) (fun Kp1 s0 h0 H Q1 HK1 => ?_)
  refine AtC.seq ?_
  refine AtC.seqR ?_
  refine AtL.pures hT 4 _ _ _ _ rfl ?_
  refine AtL.nil ?_
  refine AtE.then_n (AtE.go ?_)
  refine AtC.condB H rfl (fun H => ?_) (fun H => ?_)
  ·
   refine AtC.skip ?_
   refine AtE.then_n (AtE.go ?_)
   refine AtC.seq ?_
   refine AtC.block ?_
   refine AtC.region ?_
   refine AtL.pures hT 4 _ _ _ _ rfl ?_
   obtain ⟨hd1, v, hc1, H⟩ := H
   refine AtL.q rfl (Quiet1.idxStr hT rfl rfl rfl rfl hd1 hc1) ?_
   refine AtL.pures hT 3 _ _ _ _ rfl ?_
   replace H := H _ rfl
   refine AtL.nil ?_
   refine AtE.blk_n ?_
   refine AtE.then_n (AtE.go ?_)
   refine AtC.region ?_
   refine AtL.pures hT 3 _ _ _ _ rfl ?_
   replace H := H _ rfl
   refine AtL.nil ?_
   exact AtE.then_n ((HK1 _ _ H).pickP (ts := [4, 5, 0]) (is := []) rfl rfl (by decide) rfl)
  ·
   refine AtC.exit ?_
   refine AtE.then_x ?_
   refine AtE.then_x ?_
   refine AtE.blk_hit ?_
   refine AtE.then_n (AtE.go ?_)
   refine AtC.seqR ?_
   refine AtL.pures hT 2 _ _ _ _ rfl ?_
   refine AtL.nil ?_
   refine AtE.then_n (AtE.go ?_)
   refine AtC.seq ?_
   refine AtC.seqR ?_
   refine AtL.pures hT 3 _ _ _ _ rfl ?_
   replace H := H _ rfl
   refine AtL.nil ?_
   refine AtE.then_n (AtE.go ?_)
   refine AtC.block ?_
   refine AtC.loopM (fun (s0u1 : Int × Int × Int) => [(6, Value.int .u32 s0u1.1), (7, Value.int .u32 s0u1.2.1), (8, Value.int .i64 s0u1.2.2)]) (fun (s0u1 : Int × Int × Int) => []) [4] [6, 7, 8, 4] [] [] H (by exact rfl) (by exact rfl) (by exact rfl) (by decide) (by exact rfl) (fun Kp3 s0u1 h0u1 H Q3 HK3 => ?_)
   refine AtC.seq ?_
   refine AtC.seqR ?_
   refine AtL.pures hT 2 _ _ _ _ rfl ?_
   refine AtL.nil ?_
   refine AtE.then_n (AtE.go ?_)
   refine AtC.condB H rfl (fun H => ?_) (fun H => ?_)
   ·
    refine AtC.skip ?_
    refine AtE.then_n (AtE.go ?_)
    refine AtC.seq ?_
    refine AtC.block ?_
    refine AtC.joinSeq (β := Unit) (fun (t0 : Int) (bb : Unit) => [(6, Value.int .u32 t0)]) (fun (t0 : Int) (bb : Unit) => []) [4, 7, 8] [] H (by exact rfl) (by exact rfl) (fun t0 bb h0u2 H => ?_) (fun J4 H HK4 => ?_)
    ·
     refine AtC.region ?_
     refine AtL.pures hT 4 _ _ _ _ rfl ?_
     replace H := H _ rfl
     refine AtL.nil ?_
     refine AtE.blk_n ?_
     refine AtE.then_n (AtE.go ?_)
     refine AtC.region ?_
     refine AtL.pures hT 3 _ _ _ _ rfl ?_
     replace H := H _ rfl
     refine AtL.nil ?_
     exact AtE.then_n ((HK3 _ _ H).pickP (ts := [6, 7, 8, 4]) (is := []) rfl rfl (by decide) rfl)
    ·
     refine AtC.seqR ?_
     refine AtL.pures hT 3 _ _ _ _ rfl ?_
     refine AtL.nil ?_
     refine AtE.then_n (AtE.go ?_)
     refine AtC.condB H rfl (fun H => ?_) (fun H => ?_)
     ·
      refine AtC.region ?_
      refine AtL.pures hT 4 _ _ _ _ rfl ?_
      replace H := H _ rfl
      refine AtL.nil ?_
      exact AtE.then_n ((HK4 _ () _ H).pickP (ts := [6, 4, 7, 8]) (is := []) rfl rfl (by decide) rfl)
     ·
      refine AtC.skip ?_
      exact AtE.then_n ((HK4 _ () _ H).pickP (ts := [6, 4, 7, 8]) (is := []) rfl rfl (by decide) rfl)
   ·
    refine AtC.exit ?_
    refine AtE.then_x ?_
    refine AtE.then_x ?_
    refine AtE.blk_hit ?_
    refine AtE.then_n (AtE.go ?_)
    refine AtC.seqR ?_
    refine AtL.pures hT 4 _ _ _ _ rfl ?_
    refine AtL.nil ?_
    refine AtE.then_n (AtE.go ?_)
    refine AtC.ret ?_
    exact AtE.retN (rs := [.tmp 2, .tmp 3]) rfl (ResAll.cons (ResAt.tmp rfl) (ResAll.cons (ResAt.tmp rfl) ResAll.nil)) rfl H

theorem lift_internal_bytealg_IndexRabinKarp_string (s0 : ByteArray) (sep : ByteArray) (w : World) (m : Heap) (hr : Rel ⟨m, []⟩ w.heap) (S : Int → Heap → Prop) (H : internal_bytealg_IndexRabinKarp_string s0 sep m S) :
    Calls Tryz.prog 99 #[Value.string s0, Value.string sep] w (Post ⟨w, m⟩ (Value.int .i64) S) := by
  refine Calls.lift (args := [Value.string s0, Value.string sep]) Tryz.func99 rfl Tryz.ntmps99 (Nat.le_of_ble_eq_true rfl) hr (internal_bytealg_IndexRabinKarp_string s0 sep m S) H (fun H => ?_)
  refine AtC.pick (ts := [0, 1]) rfl ?_
  unfold internal_bytealg_IndexRabinKarp_string at H
  refine AtC.seqR ?_
  refine AtL.pures hT 1 _ _ _ _ rfl ?_
  refine AtL.nil ?_
  refine AtE.then_n (AtE.go ?_)
  refine AtC.seqR ?_
  refine AtL.pures hT 1 _ _ _ _ rfl ?_
  refine AtL.e rfl (EffX.call (f := 104) (sh := fun h => internal_bytealg_hashStr_string _ h _) (H0 := H) rfl Tryz.call104 rfl (hl := fun w m hr hw => lift_internal_bytealg_hashStr_string _ w m hr _ hw)) ?_
  rintro _ _ ⟨v, h0, rfl, rfl, H⟩
  refine AtL.pures hT 5 _ _ _ _ rfl ?_
  refine AtL.nil ?_
  refine AtE.then_n (AtE.go ?_)
  refine AtC.seqR ?_
  refine AtL.pures hT 3 _ _ _ _ rfl ?_
  replace H := H _ rfl
  refine AtL.nil ?_
  refine AtE.then_n (AtE.go ?_)
  refine AtC.seqR ?_
  refine AtL.pures hT 1 _ _ _ _ rfl ?_
  refine AtL.nil ?_
  refine AtE.then_n (AtE.go ?_)
  refine AtC.seq ?_
  refine AtC.seqR ?_
  refine AtL.pures hT 1 _ _ _ _ rfl ?_
  refine AtL.nil ?_
  refine AtE.then_n (AtE.go ?_)
  refine AtC.block ?_
  refine AtC.loopM (fun (s0u1 : Int × Int) => [(8, Value.int .u32 s0u1.1), (9, Value.int .i64 s0u1.2)]) (fun (s0u1 : Int × Int) => []) [0, 1, 5, 6, 7] [8, 9, 0, 1, 5, 6, 7] [] [] H (by exact rfl) (by exact rfl) (by exact rfl) (by decide) (by exact rfl) (fun Kp1 s0u1 h0u1 H Q1 HK1 => ?_)
  refine AtC.seq ?_
  refine AtC.seqR ?_
  refine AtL.pures hT 3 _ _ _ _ rfl ?_
  refine AtL.nil ?_
  refine AtE.then_n (AtE.go ?_)
  refine AtC.condB H rfl (fun H => ?_) (fun H => ?_)
  ·
   refine AtC.skip ?_
   refine AtE.then_n (AtE.go ?_)
   refine AtC.seq ?_
   refine AtC.block ?_
   refine AtC.region ?_
   refine AtL.pures hT 4 _ _ _ _ rfl ?_
   obtain ⟨hd1, v_1, hc1, H⟩ := H
   refine AtL.q rfl (Quiet1.idxStr hT rfl rfl rfl rfl hd1 hc1) ?_
   refine AtL.pures hT 3 _ _ _ _ rfl ?_
   replace H := H _ rfl
   refine AtL.nil ?_
   refine AtE.blk_n ?_
   refine AtE.then_n (AtE.go ?_)
   refine AtC.region ?_
   refine AtL.pures hT 3 _ _ _ _ rfl ?_
   replace H := H _ rfl
   refine AtL.nil ?_
   exact AtE.then_n ((HK1 _ _ H).pickP (ts := [8, 9, 0, 1, 5, 6, 7]) (is := []) rfl rfl (by decide) rfl)
  ·
   refine AtC.exit ?_
   refine AtE.then_x ?_
   refine AtE.then_x ?_
   refine AtE.blk_hit ?_
   refine AtE.then_n (AtE.go ?_)
   refine AtC.seq ?_
   refine AtC.joinSeq (β := Unit) (fun (t0 : Bool) (bb : Unit) => [(39, Value.bool t0)]) (fun (t0 : Bool) (bb : Unit) => []) [0, 1, 5, 6, 7, 8] [] H (by exact rfl) (by exact rfl) (fun t0 bb h0u3 H => ?_) (fun J3 H HK3 => ?_)
   ·
    refine AtC.condB H rfl (fun H => ?_) (fun H => ?_)
    ·
     refine AtC.seqR ?_
     refine AtL.pures hT 1 _ _ _ _ rfl ?_
     refine AtL.nil ?_
     refine AtE.then_n (AtE.go ?_)
     refine AtC.ret ?_
     refine AtE.then_r ?_
     exact AtE.retN (rs := [.tmp 4]) rfl (ResAll.cons (ResAt.tmp rfl) ResAll.nil) rfl H
    ·
     refine AtC.skip ?_
     refine AtE.then_n (AtE.go ?_)
     refine AtC.seq ?_
     refine AtC.seqR ?_
     refine AtL.pures hT 2 _ _ _ _ rfl ?_
     refine AtL.nil ?_
     refine AtE.then_n (AtE.go ?_)
     refine AtC.block ?_
     refine AtC.loopM (fun (s0u2 : Int × Int) => [(8, Value.int .u32 s0u2.1), (10, Value.int .i64 s0u2.2)]) (fun (s0u2 : Int × Int) => []) [0, 1, 5, 6, 7] [8, 10, 0, 1, 5, 6, 7] [] [] H (by exact rfl) (by exact rfl) (by exact rfl) (by decide) (by exact rfl) (fun Kp5 s0u2 h0u4 H Q5 HK5 => ?_)
     refine AtC.seq ?_
     refine AtC.seqR ?_
     refine AtL.pures hT 4 _ _ _ _ rfl ?_
     refine AtL.nil ?_
     refine AtE.then_n (AtE.go ?_)
     refine AtC.condB H rfl (fun H => ?_) (fun H => ?_)
     ·
      refine AtC.skip ?_
      refine AtE.then_n (AtE.go ?_)
      refine AtC.block ?_
      refine AtC.seqR ?_
      refine AtL.pures hT 3 _ _ _ _ rfl ?_
      replace H := H _ rfl
      refine AtL.nil ?_
      refine AtE.then_n (AtE.go ?_)
      refine AtC.seqR ?_
      refine AtL.pures hT 3 _ _ _ _ rfl ?_
      obtain ⟨hd5, v_3, hc5, H⟩ := H
      refine AtL.q rfl (Quiet1.idxStr hT rfl rfl rfl rfl hd5 hc5) ?_
      refine AtL.pures hT 3 _ _ _ _ rfl ?_
      replace H := H _ rfl
      refine AtL.nil ?_
      refine AtE.then_n (AtE.go ?_)
      refine AtC.seqR ?_
      refine AtL.pures hT 6 _ _ _ _ rfl ?_
      obtain ⟨hd6, v_4, hc6, H⟩ := H
      refine AtL.q rfl (Quiet1.idxStr hT rfl rfl rfl rfl hd6 hc6) ?_
      refine AtL.pures hT 4 _ _ _ _ rfl ?_
      replace H := H _ rfl
      refine AtL.nil ?_
      refine AtE.then_n (AtE.go ?_)
      refine AtC.seqR ?_
      refine AtL.pures hT 3 _ _ _ _ rfl ?_
      replace H := H _ rfl
      refine AtL.nil ?_
      refine AtE.then_n (AtE.go ?_)
      refine AtC.joinSeq (β := Unit) (fun (t0u1 : Bool) (bb_1 : Unit) => [(77, Value.bool t0u1)]) (fun (t0u1 : Bool) (bb_1 : Unit) => []) [0, 1, 5, 6, 7, 8, 10] [] H (by exact rfl) (by exact rfl) (fun t0u1 bb_1 h0u8 H => ?_) (fun J8 H HK8 => ?_)
      ·
       refine AtC.condB H rfl (fun H => ?_) (fun H => ?_)
       ·
        refine AtC.seqR ?_
        refine AtL.pures hT 4 _ _ _ _ rfl ?_
        refine AtL.nil ?_
        refine AtE.then_n (AtE.go ?_)
        refine AtC.ret ?_
        refine AtE.blk_r ?_
        refine AtE.then_r ?_
        refine AtE.blk_r ?_
        refine AtE.then_r ?_
        exact AtE.retN (rs := [.tmp 4]) rfl (ResAll.cons (ResAt.tmp rfl) ResAll.nil) rfl H
       ·
        refine AtC.skip ?_
        refine AtE.blk_n ?_
        exact AtE.then_n ((HK5 _ _ H).pickP (ts := [8, 10, 0, 1, 5, 6, 7]) (is := []) rfl rfl (by decide) rfl)
      ·
       refine AtC.region ?_
       refine AtL.pures hT 4 _ _ _ _ rfl ?_
       refine AtL.splitB (t := 68) H rfl (fun H => ?_) (fun H => ?_)
       ·
        refine AtL.yes rfl rfl rfl ?_
        refine AtL.pures hT 1 _ _ _ _ rfl ?_
        refine AtL.yes rfl rfl rfl ?_
        refine AtL.pures hT 1 _ _ _ _ rfl ?_
        refine AtL.yes rfl rfl rfl ?_
        refine AtL.pures hT 1 _ _ _ _ rfl ?_
        refine AtL.yes rfl rfl rfl ?_
        refine AtL.pures hT 1 _ _ _ _ rfl ?_
        refine AtL.yes rfl rfl rfl ?_
        refine AtL.pures hT 1 _ _ _ _ rfl ?_
        refine AtL.yes rfl rfl rfl ?_
        refine AtL.slStr (hT := hT) H rfl rfl rfl rfl rfl rfl (fun v_5 H => ?_)
        refine AtL.yes rfl rfl rfl ?_
        refine AtL.pures hT 1 _ _ _ _ rfl ?_
        refine AtL.yes rfl rfl rfl ?_
        refine AtL.pures hT 1 _ _ _ _ rfl ?_
        refine AtL.pures hT 1 _ _ _ _ rfl ?_
        refine AtL.nil ?_
        exact AtE.then_n ((HK8 _ () _ H).pickP (ts := [77, 0, 1, 5, 6, 7, 8, 10]) (is := []) rfl rfl (by decide) rfl)
       ·
        refine AtL.noF rfl rfl rfl (by decide) rfl ?_
        refine AtL.noF rfl rfl rfl (by decide) rfl ?_
        refine AtL.noF rfl rfl rfl (by decide) rfl ?_
        refine AtL.noF rfl rfl rfl (by decide) rfl ?_
        refine AtL.noF rfl rfl rfl (by decide) rfl ?_
        refine AtL.noF rfl rfl rfl (by decide) rfl ?_
        refine AtL.noF rfl rfl rfl (by decide) rfl ?_
        refine AtL.noF rfl rfl rfl (by decide) rfl ?_
        refine AtL.pures hT 1 _ _ _ _ rfl ?_
        refine AtL.nil ?_
        exact AtE.then_n ((HK8 _ () _ H).pickP (ts := [77, 0, 1, 5, 6, 7, 8, 10]) (is := []) rfl rfl (by decide) rfl)
     ·
      refine AtC.exit ?_
      refine AtE.then_x ?_
      refine AtE.then_x ?_
      refine AtE.blk_hit ?_
      refine AtE.then_n (AtE.go ?_)
      refine AtC.seqR ?_
      refine AtL.pures hT 1 _ _ _ _ rfl ?_
      refine AtL.nil ?_
      refine AtE.then_n (AtE.go ?_)
      refine AtC.ret ?_
      exact AtE.retN (rs := [.tmp 4]) rfl (ResAll.cons (ResAt.tmp rfl) ResAll.nil) rfl H
   ·
    refine AtC.region ?_
    refine AtL.pures hT 4 _ _ _ _ rfl ?_
    refine AtL.splitB (t := 33) H rfl (fun H => ?_) (fun H => ?_)
    ·
     refine AtL.yes rfl rfl rfl ?_
     refine AtL.pures hT 1 _ _ _ _ rfl ?_
     refine AtL.yes rfl rfl rfl ?_
     refine AtL.pures hT 1 _ _ _ _ rfl ?_
     refine AtL.yes rfl rfl rfl ?_
     refine AtL.slStr (hT := hT) H rfl rfl rfl rfl rfl rfl (fun v_2 H => ?_)
     refine AtL.yes rfl rfl rfl ?_
     refine AtL.pures hT 1 _ _ _ _ rfl ?_
     refine AtL.yes rfl rfl rfl ?_
     refine AtL.pures hT 1 _ _ _ _ rfl ?_
     refine AtL.pures hT 1 _ _ _ _ rfl ?_
     refine AtL.nil ?_
     exact AtE.then_n ((HK3 _ () _ H).pickP (ts := [39, 0, 1, 5, 6, 7, 8]) (is := []) rfl rfl (by decide) rfl)
    ·
     refine AtL.noF rfl rfl rfl (by decide) rfl ?_
     refine AtL.noF rfl rfl rfl (by decide) rfl ?_
     refine AtL.noF rfl rfl rfl (by decide) rfl ?_
     refine AtL.noF rfl rfl rfl (by decide) rfl ?_
     refine AtL.noF rfl rfl rfl (by decide) rfl ?_
     refine AtL.pures hT 1 _ _ _ _ rfl ?_
     refine AtL.nil ?_
     exact AtE.then_n ((HK3 _ () _ H).pickP (ts := [39, 0, 1, 5, 6, 7, 8]) (is := []) rfl rfl (by decide) rfl)

theorem lift_internal_stringslite_Index (s0 : ByteArray) (substr : ByteArray) (w : World) (m : Heap) (hr : Rel ⟨m, []⟩ w.heap) (S : Int → Heap → Prop) (H : internal_stringslite_Index s0 substr m S) :
    Calls Tryz.prog 88 #[Value.string s0, Value.string substr] w (Post ⟨w, m⟩ (Value.int .i64) S) := by
  refine Calls.lift (args := [Value.string s0, Value.string substr]) Tryz.func88 rfl Tryz.ntmps88 (Nat.le_of_ble_eq_true rfl) hr (internal_stringslite_Index s0 substr m S) H (fun H => ?_)
  refine AtC.pick (ts := [0, 1]) rfl ?_
  unfold internal_stringslite_Index at H
  refine AtC.seqR ?_
  refine AtL.pures hT 1 _ _ _ _ rfl ?_
  refine AtL.nil ?_
  refine AtE.then_n (AtE.go ?_)
  refine AtC.seqR ?_
  refine AtL.pures hT 3 _ _ _ _ rfl ?_
  replace H := H _ rfl
  refine AtL.nil ?_
  refine AtE.then_n (AtE.go ?_)
  refine AtC.seq ?_
  refine AtC.block ?_
  refine AtC.joinSeq (β := Unit) (fun (t0 : Bool) (bb : Unit) => [(16, Value.bool t0)]) (fun (t0 : Bool) (bb : Unit) => []) [0, 1, 5] [] H (by exact rfl) (by exact rfl) (fun t0 bb h0 H => ?_) (fun J1 H HK1 => ?_)
  ·
   refine AtC.condB H rfl (fun H => ?_) (fun H => ?_)
   ·
    refine AtC.seqR ?_
    refine AtL.pures hT 1 _ _ _ _ rfl ?_
    refine AtL.nil ?_
    refine AtE.then_n (AtE.go ?_)
    refine AtC.ret ?_
    refine AtE.blk_r ?_
    refine AtE.then_r ?_
    exact AtE.retN (rs := [.tmp 4]) rfl (ResAll.cons (ResAt.tmp rfl) ResAll.nil) rfl H
   ·
    refine AtC.seqR ?_
    refine AtL.pures hT 3 _ _ _ _ rfl ?_
    refine AtL.nil ?_
    refine AtE.then_n (AtE.go ?_)
    refine AtC.condB H rfl (fun H => ?_) (fun H => ?_)
    ·
     refine AtC.seqR ?_
     refine AtL.pures hT 2 _ _ _ _ rfl ?_
     obtain ⟨hd1, v, hc1, H⟩ := H
     refine AtL.q rfl (Quiet1.idxStr hT rfl rfl rfl rfl hd1 hc1) ?_
     refine AtL.e rfl (EffX.call (f := 96) (sh := fun h => internal_stringslite_IndexByte _ _ h _) (H0 := H) rfl Tryz.call96 rfl (hl := fun w m hr hw => lift_internal_stringslite_IndexByte _ _ w m hr _ hw)) ?_
     rintro _ _ ⟨v_1, h0u1, rfl, rfl, H⟩
     refine AtL.pures hT 1 _ _ _ _ rfl ?_
     refine AtL.nil ?_
     refine AtE.then_n (AtE.go ?_)
     refine AtC.ret ?_
     refine AtE.blk_r ?_
     refine AtE.then_r ?_
     exact AtE.retN (rs := [.tmp 4]) rfl (ResAll.cons (ResAt.tmp rfl) ResAll.nil) rfl H
    ·
     refine AtC.seqR ?_
     refine AtL.pures hT 5 _ _ _ _ rfl ?_
     refine AtL.nil ?_
     refine AtE.then_n (AtE.go ?_)
     refine AtC.condB H rfl (fun H => ?_) (fun H => ?_)
     ·
      refine AtC.seqR ?_
      refine AtL.pures hT 1 _ _ _ _ rfl ?_
      refine AtL.nil ?_
      refine AtE.then_n (AtE.go ?_)
      refine AtC.ret ?_
      refine AtE.blk_r ?_
      refine AtE.then_r ?_
      exact AtE.retN (rs := [.tmp 4]) rfl (ResAll.cons (ResAt.tmp rfl) ResAll.nil) rfl H
     ·
      refine AtC.joinSeq (β := Unit) (fun (t0u1 : Bool) (bb_1 : Unit) => [(36, Value.bool t0u1)]) (fun (t0u1 : Bool) (bb_1 : Unit) => []) [0, 1, 5] [] H (by exact rfl) (by exact rfl) (fun t0u1 bb_1 h0u2 H => ?_) (fun J3 H HK3 => ?_)
      ·
       refine AtC.condB H rfl (fun H => ?_) (fun H => ?_)
       ·
        refine AtC.seqR ?_
        refine AtL.pures hT 2 _ _ _ _ rfl ?_
        exact H.elim
       ·
        refine AtC.skip ?_
        refine AtE.blk_n ?_
        refine AtE.then_n (AtE.go ?_)
        refine AtC.seqR ?_
        refine AtL.pures hT 1 _ _ _ _ rfl ?_
        obtain ⟨hd4, v_3, hc4, H⟩ := H
        refine AtL.q rfl (Quiet1.idxStr hT rfl rfl rfl rfl hd4 hc4) ?_
        refine AtL.pures hT 1 _ _ _ _ rfl ?_
        refine AtL.nil ?_
        refine AtE.then_n (AtE.go ?_)
        refine AtC.seqR ?_
        refine AtL.pures hT 1 _ _ _ _ rfl ?_
        obtain ⟨hd5, v_4, hc5, H⟩ := H
        refine AtL.q rfl (Quiet1.idxStr hT rfl rfl rfl rfl hd5 hc5) ?_
        refine AtL.pures hT 1 _ _ _ _ rfl ?_
        refine AtL.nil ?_
        refine AtE.then_n (AtE.go ?_)
        refine AtC.seqR ?_
        refine AtL.pures hT 1 _ _ _ _ rfl ?_
        refine AtL.nil ?_
        refine AtE.then_n (AtE.go ?_)
        refine AtC.seqR ?_
        refine AtL.pures hT 6 _ _ _ _ rfl ?_
        replace H := H _ rfl
        refine AtL.nil ?_
        refine AtE.then_n (AtE.go ?_)
        refine AtC.seqR ?_
        refine AtL.pures hT 1 _ _ _ _ rfl ?_
        refine AtL.nil ?_
        refine AtE.then_n (AtE.go ?_)
        refine AtC.seq ?_
        refine AtC.block ?_
        refine AtC.loopM (fun (s0u1 : Int × Int) => [(8, Value.int .i64 s0u1.1), (10, Value.int .i64 s0u1.2)]) (fun (s0u1 : Int × Int) => []) [0, 1, 5, 6, 7, 9] [8, 10, 0, 1, 5, 6, 7, 9] [] [] H (by exact rfl) (by exact rfl) (by exact rfl) (by decide) (by exact rfl) (fun Kp7 s0u1 h0u3 H Q7 HK7 => ?_)
        refine AtC.seq ?_
        refine AtC.seqR ?_
        refine AtL.pures hT 3 _ _ _ _ rfl ?_
        refine AtL.nil ?_
        refine AtE.then_n (AtE.go ?_)
        refine AtC.condB H rfl (fun H => ?_) (fun H => ?_)
        ·
         refine AtC.skip ?_
         refine AtE.then_n (AtE.go ?_)
         refine AtC.block ?_
         refine AtC.joinSeq (β := Unit) (fun (t0u3 : Int) (bb_2 : Unit) => [(8, Value.int .i64 t0u3)]) (fun (t0u3 : Int) (bb_2 : Unit) => []) [0, 1, 5, 6, 7, 9, 10] [] H (by exact rfl) (by exact rfl) (fun t0u3 bb_2 h0u4 H => ?_) (fun J8 H HK8 => ?_)
         ·
          refine AtC.seq ?_
          refine AtC.joinSeq (β := Unit) (fun (t0u4 : Bool) (bb_3 : Unit) => [(93, Value.bool t0u4)]) (fun (t0u4 : Bool) (bb_3 : Unit) => []) [0, 1, 5, 6, 7, 8, 9, 10] [] H (by exact rfl) (by exact rfl) (fun t0u4 bb_3 h0u6 H => ?_) (fun J11 H HK11 => ?_)
          ·
           refine AtC.condB H rfl (fun H => ?_) (fun H => ?_)
           ·
            refine AtC.seqR ?_
            refine AtL.pures hT 2 _ _ _ _ rfl ?_
            refine AtL.nil ?_
            refine AtE.then_n (AtE.go ?_)
            refine AtC.ret ?_
            refine AtE.then_r ?_
            refine AtE.blk_r ?_
            refine AtE.then_r ?_
            refine AtE.blk_r ?_
            refine AtE.then_r ?_
            exact AtE.retN (rs := [.tmp 4]) rfl (ResAll.cons (ResAt.tmp rfl) ResAll.nil) rfl H
           ·
            refine AtC.skip ?_
            refine AtE.then_n (AtE.go ?_)
            refine AtC.seqR ?_
            refine AtL.pures hT 3 _ _ _ _ rfl ?_
            replace H := H _ rfl
            refine AtL.nil ?_
            refine AtE.then_n (AtE.go ?_)
            refine AtC.seqR ?_
            refine AtL.pures hT 3 _ _ _ _ rfl ?_
            replace H := H _ rfl
            refine AtL.nil ?_
            refine AtE.then_n (AtE.go ?_)
            refine AtC.joinSeq (β := Unit) (fun (t0u5 : Bool) (bb_4 : Unit) => [(107, Value.bool t0u5)]) (fun (t0u5 : Bool) (bb_4 : Unit) => []) [0, 1, 5, 6, 7, 8, 9, 10] [] H (by exact rfl) (by exact rfl) (fun t0u5 bb_4 h0u7 H => ?_) (fun J14 H HK14 => ?_)
            ·
             refine AtC.condB H rfl (fun H => ?_) (fun H => ?_)
             ·
              refine AtC.seqR ?_
              refine AtL.pures hT 2 _ _ _ _ rfl ?_
              refine AtL.slStr (hT := hT) H rfl rfl rfl rfl rfl rfl (fun v_12 H => ?_)
              refine AtL.pures hT 1 _ _ _ _ rfl ?_
              exact H.elim
             ·
              refine AtC.joinSeq (β := Unit) (fun (t0u6 : Bool) (bb_5 : Unit) => [(132, Value.bool t0u6)]) (fun (t0u6 : Bool) (bb_5 : Unit) => []) [0, 1, 5, 6, 7, 8, 9, 10] [] H (by exact rfl) (by exact rfl) (fun t0u6 bb_5 h0u9 H => ?_) (fun J17 H HK17 => ?_)
              ·
               refine AtC.condB H rfl (fun H => ?_) (fun H => ?_)
               ·
                refine AtC.seqR ?_
                refine AtL.pures hT 2 _ _ _ _ rfl ?_
                refine AtL.slStr (hT := hT) H rfl rfl rfl rfl rfl rfl (fun v_14 H => ?_)
                refine AtL.pures hT 1 _ _ _ _ rfl ?_
                refine AtL.e rfl (EffX.call (f := 99) (sh := fun h => internal_bytealg_IndexRabinKarp_string _ _ h _) (H0 := H) rfl Tryz.call99 rfl (hl := fun w m hr hw => lift_internal_bytealg_IndexRabinKarp_string _ _ w m hr _ hw)) ?_
                rintro _ _ ⟨v_15, h0u10, rfl, rfl, H⟩
                refine AtL.pures hT 1 _ _ _ _ rfl ?_
                refine AtL.nil ?_
                refine AtE.then_n (AtE.go ?_)
                refine AtC.seq ?_
                refine AtC.seqR ?_
                refine AtL.pures hT 2 _ _ _ _ rfl ?_
                refine AtL.nil ?_
                refine AtE.then_n (AtE.go ?_)
                refine AtC.condB H rfl (fun H => ?_) (fun H => ?_)
                ·
                 refine AtC.seqR ?_
                 refine AtL.pures hT 1 _ _ _ _ rfl ?_
                 refine AtL.nil ?_
                 refine AtE.then_n (AtE.go ?_)
                 refine AtC.ret ?_
                 refine AtE.then_r ?_
                 refine AtE.blk_r ?_
                 refine AtE.then_r ?_
                 refine AtE.blk_r ?_
                 refine AtE.then_r ?_
                 exact AtE.retN (rs := [.tmp 4]) rfl (ResAll.cons (ResAt.tmp rfl) ResAll.nil) rfl H
                ·
                 refine AtC.skip ?_
                 refine AtE.then_n (AtE.go ?_)
                 refine AtC.seqR ?_
                 refine AtL.pures hT 4 _ _ _ _ rfl ?_
                 refine AtL.nil ?_
                 refine AtE.then_n (AtE.go ?_)
                 refine AtC.ret ?_
                 refine AtE.blk_r ?_
                 refine AtE.then_r ?_
                 refine AtE.blk_r ?_
                 refine AtE.then_r ?_
                 exact AtE.retN (rs := [.tmp 4]) rfl (ResAll.cons (ResAt.tmp rfl) ResAll.nil) rfl H
               ·
                refine AtC.skip ?_
                refine AtE.blk_n ?_
                exact AtE.then_n ((HK7 _ _ H).pickP (ts := [8, 10, 0, 1, 5, 6, 7, 9]) (is := []) rfl rfl (by decide) rfl)
              ·
               refine AtC.region ?_
               refine AtL.pures hT 1 _ _ _ _ rfl ?_
               obtain ⟨v_13, hc17, H⟩ := H
               refine AtL.q rfl (Quiet1.load hT rfl rfl rfl hc17) ?_
               refine AtL.pures hT 2 _ _ _ _ rfl ?_
               refine AtL.splitB (t := 121) H rfl (fun H => ?_) (fun H => ?_)
               ·
                refine AtL.yes rfl rfl rfl ?_
                refine AtL.pures hT 1 _ _ _ _ rfl ?_
                refine AtL.yes rfl rfl rfl ?_
                refine AtL.pures hT 1 _ _ _ _ rfl ?_
                refine AtL.yes rfl rfl rfl ?_
                refine AtL.pures hT 1 _ _ _ _ rfl ?_
                refine AtL.yes rfl rfl rfl ?_
                refine AtL.pures hT 1 _ _ _ _ rfl ?_
                refine AtL.yes rfl rfl rfl ?_
                refine AtL.pures hT 1 _ _ _ _ rfl ?_
                refine AtL.pures hT 2 _ _ _ _ rfl ?_
                refine AtL.splitB (t := 128) H rfl (fun H => ?_) (fun H => ?_)
                ·
                 refine AtL.yes rfl rfl rfl ?_
                 refine AtL.pures hT 1 _ _ _ _ rfl ?_
                 refine AtL.yes rfl rfl rfl ?_
                 refine AtL.pures hT 1 _ _ _ _ rfl ?_
                 refine AtL.yes rfl rfl rfl ?_
                 refine AtL.pures hT 1 _ _ _ _ rfl ?_
                 refine AtL.pures hT 1 _ _ _ _ rfl ?_
                 refine AtL.nil ?_
                 exact AtE.then_n ((HK17 _ () _ H).pickP (ts := [132, 0, 1, 5, 6, 7, 8, 9, 10]) (is := []) rfl rfl (by decide) rfl)
                ·
                 refine AtL.noF rfl rfl rfl (by decide) rfl ?_
                 refine AtL.noF rfl rfl rfl (by decide) rfl ?_
                 refine AtL.noF rfl rfl rfl (by decide) rfl ?_
                 refine AtL.pures hT 1 _ _ _ _ rfl ?_
                 refine AtL.nil ?_
                 exact AtE.then_n ((HK17 _ () _ H).pickP (ts := [132, 0, 1, 5, 6, 7, 8, 9, 10]) (is := []) rfl rfl (by decide) rfl)
               ·
                refine AtL.noF rfl rfl rfl (by decide) rfl ?_
                refine AtL.noF rfl rfl rfl (by decide) rfl ?_
                refine AtL.noF rfl rfl rfl (by decide) rfl ?_
                refine AtL.noF rfl rfl rfl (by decide) rfl ?_
                refine AtL.noF rfl rfl rfl (by decide) rfl ?_
                refine AtL.pures hT 2 _ _ _ _ rfl ?_
                refine AtL.noF rfl rfl rfl (by decide) rfl ?_
                refine AtL.noF rfl rfl rfl (by decide) rfl ?_
                refine AtL.noF rfl rfl rfl (by decide) rfl ?_
                refine AtL.pures hT 1 _ _ _ _ rfl ?_
                refine AtL.nil ?_
                exact AtE.then_n ((HK17 _ () _ H).pickP (ts := [132, 0, 1, 5, 6, 7, 8, 9, 10]) (is := []) rfl rfl (by decide) rfl)
            ·
             refine AtC.region ?_
             refine AtL.pures hT 1 _ _ _ _ rfl ?_
             obtain ⟨v_10, hc14, H⟩ := H
             refine AtL.q rfl (Quiet1.load hT rfl rfl rfl hc14) ?_
             refine AtL.pures hT 2 _ _ _ _ rfl ?_
             refine AtL.splitB (t := 102) H rfl (fun H => ?_) (fun H => ?_)
             ·
              refine AtL.yes rfl rfl rfl ?_
              refine AtL.pures hT 1 _ _ _ _ rfl ?_
              refine AtL.yes rfl rfl rfl ?_
              refine AtL.pures hT 1 _ _ _ _ rfl ?_
              refine AtL.yes rfl rfl rfl ?_
              refine AtL.e rfl (EffX.call (f := 98) (sh := fun h => internal_bytealg_Cutover _ h _) (H0 := H) rfl Tryz.call98 rfl (hl := fun w m hr hw => lift_internal_bytealg_Cutover _ w m hr _ hw)) ?_
              rintro _ _ ⟨v_11, h0u8, rfl, rfl, H⟩
              refine AtL.yes rfl rfl rfl ?_
              refine AtL.pures hT 1 _ _ _ _ rfl ?_
              refine AtL.pures hT 1 _ _ _ _ rfl ?_
              refine AtL.nil ?_
              exact AtE.then_n ((HK14 _ () _ H).pickP (ts := [107, 0, 1, 5, 6, 7, 8, 9, 10]) (is := []) rfl rfl (by decide) rfl)
             ·
              refine AtL.noF rfl rfl rfl (by decide) rfl ?_
              refine AtL.noF rfl rfl rfl (by decide) rfl ?_
              refine AtL.noF rfl rfl rfl (by decide) rfl ?_
              refine AtL.noF rfl rfl rfl (by decide) rfl ?_
              refine AtL.pures hT 1 _ _ _ _ rfl ?_
              refine AtL.nil ?_
              exact AtE.then_n ((HK14 _ () _ H).pickP (ts := [107, 0, 1, 5, 6, 7, 8, 9, 10]) (is := []) rfl rfl (by decide) rfl)
          ·
           refine AtC.region ?_
           refine AtL.pures hT 3 _ _ _ _ rfl ?_
           obtain ⟨hd11, v_8, hc11, H⟩ := H
           refine AtL.q rfl (Quiet1.idxStr hT rfl rfl rfl rfl hd11 hc11) ?_
           refine AtL.pures hT 3 _ _ _ _ rfl ?_
           refine AtL.splitB (t := 84) H rfl (fun H => ?_) (fun H => ?_)
           ·
            refine AtL.yes rfl rfl rfl ?_
            refine AtL.pures hT 1 _ _ _ _ rfl ?_
            refine AtL.yes rfl rfl rfl ?_
            refine AtL.pures hT 1 _ _ _ _ rfl ?_
            refine AtL.yes rfl rfl rfl ?_
            refine AtL.pures hT 1 _ _ _ _ rfl ?_
            refine AtL.yes rfl rfl rfl ?_
            refine AtL.pures hT 1 _ _ _ _ rfl ?_
            refine AtL.yes rfl rfl rfl ?_
            refine AtL.pures hT 1 _ _ _ _ rfl ?_
            refine AtL.yes rfl rfl rfl ?_
            refine AtL.slStr (hT := hT) H rfl rfl rfl rfl rfl rfl (fun v_9 H => ?_)
            refine AtL.yes rfl rfl rfl ?_
            refine AtL.pures hT 1 _ _ _ _ rfl ?_
            refine AtL.yes rfl rfl rfl ?_
            refine AtL.pures hT 1 _ _ _ _ rfl ?_
            refine AtL.pures hT 1 _ _ _ _ rfl ?_
            refine AtL.nil ?_
            exact AtE.then_n ((HK11 _ () _ H).pickP (ts := [93, 0, 1, 5, 6, 7, 8, 9, 10]) (is := []) rfl rfl (by decide) rfl)
           ·
            refine AtL.noF rfl rfl rfl (by decide) rfl ?_
            refine AtL.noF rfl rfl rfl (by decide) rfl ?_
            refine AtL.noF rfl rfl rfl (by decide) rfl ?_
            refine AtL.noF rfl rfl rfl (by decide) rfl ?_
            refine AtL.noF rfl rfl rfl (by decide) rfl ?_
            refine AtL.noF rfl rfl rfl (by decide) rfl ?_
            refine AtL.noF rfl rfl rfl (by decide) rfl ?_
            refine AtL.noF rfl rfl rfl (by decide) rfl ?_
            refine AtL.pures hT 1 _ _ _ _ rfl ?_
            refine AtL.nil ?_
            exact AtE.then_n ((HK11 _ () _ H).pickP (ts := [93, 0, 1, 5, 6, 7, 8, 9, 10]) (is := []) rfl rfl (by decide) rfl)
         ·
          refine AtC.seqR ?_
          refine AtL.pures hT 2 _ _ _ _ rfl ?_
          obtain ⟨hd8, v_5, hc8, H⟩ := H
          refine AtL.q rfl (Quiet1.idxStr hT rfl rfl rfl rfl hd8 hc8) ?_
          refine AtL.pures hT 2 _ _ _ _ rfl ?_
          refine AtL.nil ?_
          refine AtE.then_n (AtE.go ?_)
          refine AtC.condB H rfl (fun H => ?_) (fun H => ?_)
          ·
           refine AtC.seqR ?_
           refine AtL.pures hT 4 _ _ _ _ rfl ?_
           refine AtL.slStr (hT := hT) H rfl rfl rfl rfl rfl rfl (fun v_6 H => ?_)
           refine AtL.pures hT 1 _ _ _ _ rfl ?_
           refine AtL.e rfl (EffX.call (f := 96) (sh := fun h => internal_stringslite_IndexByte _ _ h _) (H0 := H) rfl Tryz.call96 rfl (hl := fun w m hr hw => lift_internal_stringslite_IndexByte _ _ w m hr _ hw)) ?_
           rintro _ _ ⟨v_7, h0u5, rfl, rfl, H⟩
           refine AtL.pures hT 1 _ _ _ _ rfl ?_
           refine AtL.nil ?_
           refine AtE.then_n (AtE.go ?_)
           refine AtC.seq ?_
           refine AtC.seqR ?_
           refine AtL.pures hT 2 _ _ _ _ rfl ?_
           refine AtL.nil ?_
           refine AtE.then_n (AtE.go ?_)
           refine AtC.condB H rfl (fun H => ?_) (fun H => ?_)
           ·
            refine AtC.seqR ?_
            refine AtL.pures hT 1 _ _ _ _ rfl ?_
            refine AtL.nil ?_
            refine AtE.then_n (AtE.go ?_)
            refine AtC.ret ?_
            refine AtE.then_r ?_
            refine AtE.then_r ?_
            refine AtE.blk_r ?_
            refine AtE.then_r ?_
            refine AtE.blk_r ?_
            refine AtE.then_r ?_
            exact AtE.retN (rs := [.tmp 4]) rfl (ResAll.cons (ResAt.tmp rfl) ResAll.nil) rfl H
           ·
            refine AtC.skip ?_
            refine AtE.then_n (AtE.go ?_)
            refine AtC.region ?_
            refine AtL.pures hT 5 _ _ _ _ rfl ?_
            replace H := H _ rfl
            refine AtL.nil ?_
            exact AtE.then_n ((HK8 _ () _ H).pickP (ts := [8, 0, 1, 5, 6, 7, 9, 10]) (is := []) rfl rfl (by decide) rfl)
          ·
           refine AtC.skip ?_
           exact AtE.then_n ((HK8 _ () _ H).pickP (ts := [8, 0, 1, 5, 6, 7, 9, 10]) (is := []) rfl rfl (by decide) rfl)
        ·
         refine AtC.exit ?_
         refine AtE.then_x ?_
         refine AtE.then_x ?_
         refine AtE.blk_hit ?_
         refine AtE.then_n (AtE.go ?_)
         refine AtC.seqR ?_
         refine AtL.pures hT 1 _ _ _ _ rfl ?_
         refine AtL.nil ?_
         refine AtE.then_n (AtE.go ?_)
         refine AtC.ret ?_
         exact AtE.retN (rs := [.tmp 4]) rfl (ResAll.cons (ResAt.tmp rfl) ResAll.nil) rfl H
      ·
       refine AtC.region ?_
       refine AtL.pures hT 1 _ _ _ _ rfl ?_
       obtain ⟨v_2, hc3, H⟩ := H
       refine AtL.q rfl (Quiet1.load hT rfl rfl rfl hc3) ?_
       refine AtL.pures hT 2 _ _ _ _ rfl ?_
       refine AtL.splitB (t := 40) H rfl (fun H => ?_) (fun H => ?_)
       ·
        refine AtL.yes rfl rfl rfl ?_
        refine AtL.pures hT 1 _ _ _ _ rfl ?_
        refine AtL.yes rfl rfl rfl ?_
        refine AtL.pures hT 1 _ _ _ _ rfl ?_
        refine AtL.yes rfl rfl rfl ?_
        refine AtL.pures hT 1 _ _ _ _ rfl ?_
        refine AtL.pures hT 2 _ _ _ _ rfl ?_
        refine AtL.nil ?_
        exact AtE.then_n ((HK3 _ () _ H).pickP (ts := [36, 0, 1, 5]) (is := []) rfl rfl (by decide) rfl)
       ·
        refine AtL.noF rfl rfl rfl (by decide) rfl ?_
        refine AtL.noF rfl rfl rfl (by decide) rfl ?_
        refine AtL.noF rfl rfl rfl (by decide) rfl ?_
        refine AtL.pures hT 2 _ _ _ _ rfl ?_
        refine AtL.nil ?_
        exact AtE.then_n ((HK3 _ () _ H).pickP (ts := [36, 0, 1, 5]) (is := []) rfl rfl (by decide) rfl)
  ·
   refine AtC.region ?_
   refine AtL.pures hT 3 _ _ _ _ rfl ?_
   refine AtL.splitB (t := 19) H rfl (fun H => ?_) (fun H => ?_)
   ·
    refine AtL.noF rfl rfl rfl (by decide) rfl ?_
    refine AtL.noF rfl rfl rfl (by decide) rfl ?_
    refine AtL.noF rfl rfl rfl (by decide) rfl ?_
    refine AtL.pures hT 2 _ _ _ _ rfl ?_
    refine AtL.nil ?_
    exact AtE.then_n ((HK1 _ () _ H).pickP (ts := [16, 0, 1, 5]) (is := []) rfl rfl (by decide) rfl)
   ·
    refine AtL.yes rfl rfl rfl ?_
    refine AtL.pures hT 1 _ _ _ _ rfl ?_
    refine AtL.yes rfl rfl rfl ?_
    refine AtL.pures hT 1 _ _ _ _ rfl ?_
    refine AtL.yes rfl rfl rfl ?_
    refine AtL.pures hT 1 _ _ _ _ rfl ?_
    refine AtL.pures hT 2 _ _ _ _ rfl ?_
    refine AtL.nil ?_
    exact AtE.then_n ((HK1 _ () _ H).pickP (ts := [16, 0, 1, 5]) (is := []) rfl rfl (by decide) rfl)

theorem lift_internal_stringslite_Cut (s0 : ByteArray) (sep : ByteArray) (w : World) (m : Heap) (hr : Rel ⟨m, []⟩ w.heap) (S : (ByteArray × ByteArray × Bool) → Heap → Prop) (H : internal_stringslite_Cut s0 sep m S) :
    Calls Tryz.prog 74 #[Value.string s0, Value.string sep] w (Post ⟨w, m⟩ (fun r => Value.tuple #[Value.string r.1, Value.string r.2.1, Value.bool r.2.2]) S) := by
  refine Calls.lift (args := [Value.string s0, Value.string sep]) Tryz.func74 rfl Tryz.ntmps74 (Nat.le_of_ble_eq_true rfl) hr (internal_stringslite_Cut s0 sep m S) H (fun H => ?_)
  refine AtC.pick (ts := [0, 1]) rfl ?_
  unfold internal_stringslite_Cut at H
  refine AtC.seqR ?_
  refine AtL.pures hT 3 _ _ _ _ rfl ?_
  replace H := H _ rfl
  replace H := H _ rfl
  refine AtL.nil ?_
  refine AtE.then_n (AtE.go ?_)
  refine AtC.seq ?_
  refine AtC.seqR ?_
  refine AtL.pures hT 2 _ _ _ _ rfl ?_
  refine AtL.e rfl (EffX.call (f := 88) (sh := fun h => internal_stringslite_Index _ _ h _) (H0 := H) rfl Tryz.call88 rfl (hl := fun w m hr hw => lift_internal_stringslite_Index _ _ w m hr _ hw)) ?_
  rintro _ _ ⟨v, h0, rfl, rfl, H⟩
  refine AtL.pures hT 1 _ _ _ _ rfl ?_
  refine AtL.nil ?_
  refine AtE.then_n (AtE.go ?_)
  refine AtC.seqR ?_
  refine AtL.pures hT 2 _ _ _ _ rfl ?_
  refine AtL.nil ?_
  refine AtE.then_n (AtE.go ?_)
  refine AtC.condB H rfl (fun H => ?_) (fun H => ?_)
  ·
   refine AtC.seqD hmix (by kernel_rfl) ?_
   refine AtD.pures hT 2 _ _ _ _ rfl ?_
   refine AtD.slStr (hT := hT) H rfl rfl rfl rfl rfl rfl (fun v_1 H => ?_)
   refine AtD.pures hT 5 _ _ _ _ rfl ?_
   refine AtD.slStr (hT := hT) H rfl rfl rfl rfl rfl rfl (fun v_2 H => ?_)
   refine AtD.pures hT 3 _ _ _ _ rfl ?_
   refine AtD.nil ?_
   refine AtE.then_n (AtE.go ?_)
   refine AtC.ret ?_
   refine AtE.then_r ?_
   exact AtE.retN (rs := [.tmp 4, .tmp 5, .tmp 6]) rfl (ResAll.cons (ResAt.tmp rfl) (ResAll.cons (ResAt.tmp rfl) (ResAll.cons (ResAt.tmp rfl) ResAll.nil))) rfl H
  ·
   refine AtC.skip ?_
   refine AtE.then_n (AtE.go ?_)
   refine AtC.seqR ?_
   refine AtL.pures hT 4 _ _ _ _ rfl ?_
   replace H := H _ rfl
   refine AtL.nil ?_
   refine AtE.then_n (AtE.go ?_)
   refine AtC.ret ?_
   exact AtE.retN (rs := [.tmp 4, .tmp 5, .tmp 6]) rfl (ResAll.cons (ResAt.tmp rfl) (ResAll.cons (ResAt.tmp rfl) (ResAll.cons (ResAt.tmp rfl) ResAll.nil))) rfl H

theorem lift_strings_Cut (s0 : ByteArray) (sep : ByteArray) (w : World) (m : Heap) (hr : Rel ⟨m, []⟩ w.heap) (S : (ByteArray × ByteArray × Bool) → Heap → Prop) (H : strings_Cut s0 sep m S) :
    Calls Tryz.prog 54 #[Value.string s0, Value.string sep] w (Post ⟨w, m⟩ (fun r => Value.tuple #[Value.string r.1, Value.string r.2.1, Value.bool r.2.2]) S) := by
  refine Calls.lift (args := [Value.string s0, Value.string sep]) Tryz.func54 rfl Tryz.ntmps54 (Nat.le_of_ble_eq_true rfl) hr (strings_Cut s0 sep m S) H (fun H => ?_)
  refine AtC.pick (ts := [0, 1]) rfl ?_
  unfold strings_Cut at H
  refine AtC.seqR ?_
  refine AtL.pures hT 3 _ _ _ _ rfl ?_
  replace H := H _ rfl
  replace H := H _ rfl
  refine AtL.nil ?_
  refine AtE.then_n (AtE.go ?_)
  refine AtC.seqR ?_
  refine AtL.pures hT 2 _ _ _ _ rfl ?_
  refine AtL.e rfl (EffX.call (f := 74) (sh := fun h => internal_stringslite_Cut _ _ h _) (H0 := H) rfl Tryz.call74 rfl (hl := fun w m hr hw => lift_internal_stringslite_Cut _ _ w m hr _ hw)) ?_
  rintro _ _ ⟨v, h0, rfl, rfl, H⟩
  refine AtL.pures hT 6 _ _ _ _ rfl ?_
  refine AtL.nil ?_
  refine AtE.then_n (AtE.go ?_)
  refine AtC.ret ?_
  exact AtE.retN (rs := [.tmp 4, .tmp 5, .tmp 6]) rfl (ResAll.cons (ResAt.tmp rfl) (ResAll.cons (ResAt.tmp rfl) (ResAll.cons (ResAt.tmp rfl) ResAll.nil))) rfl H

theorem lift_nat_Bench_Over (b : (Option Addr)) (w : World) (m : Heap) (hr : Rel ⟨m, []⟩ w.heap) (S : Bool → Heap → Prop) (H : nat_Bench_Over b m S) :
    Calls Tryz.prog 36 #[Value.pointer b] w (Post ⟨w, m⟩ Value.bool S) := by
  refine Calls.lift (args := [Value.pointer b]) Tryz.func36 rfl Tryz.ntmps36 (Nat.le_of_ble_eq_true rfl) hr (nat_Bench_Over b m S) H (fun H => ?_)
  refine AtC.pick (ts := [0]) rfl ?_
  unfold nat_Bench_Over at H
  refine AtC.seqR ?_
  refine AtL.pures hT 1 _ _ _ _ rfl ?_
  refine AtL.nil ?_
  refine AtE.then_n (AtE.go ?_)
  refine AtC.seqR ?_
  refine AtL.pures hT 1 _ _ _ _ rfl ?_
  obtain ⟨a, hc0, H⟩ := H
  refine AtL.q rfl (Quiet1.nilChk rfl rfl hc0) ?_
  refine AtL.pures hT 1 _ _ _ _ rfl ?_
  obtain ⟨v, hc1, H⟩ := H
  refine AtL.q rfl (Quiet1.load hT rfl rfl rfl hc1) ?_
  refine AtL.pures hT 1 _ _ _ _ rfl ?_
  refine AtL.nil ?_
  refine AtE.then_n (AtE.go ?_)
  refine AtC.ret ?_
  exact AtE.retN (rs := [.tmp 2]) rfl (ResAll.cons (ResAt.tmp rfl) ResAll.nil) rfl H

theorem lift_ratio_free (w : World) (m : Heap) (hr : Rel ⟨m, []⟩ w.heap) (S : ((Option Addr)) → Heap → Prop) (H : ratio_free m S) :
    Calls Tryz.prog 41 #[] w (Post ⟨w, m⟩ Value.pointer S) := by
  refine Calls.lift (args := []) Tryz.func41 rfl Tryz.ntmps41 (Nat.le_of_ble_eq_true rfl) hr (ratio_free m S) H (fun H => ?_)
  refine AtC.pick (ts := []) rfl ?_
  unfold ratio_free at H
  refine AtC.seqR ?_
  refine AtL.pures hT 1 _ _ _ _ rfl ?_
  refine AtL.nil ?_
  refine AtE.then_n (AtE.go ?_)
  refine AtC.seqR ?_
  refine AtL.e rfl (EffX.call (f := 33) (sh := fun h => nat_New _ h _) (H0 := H) rfl Tryz.call33 rfl (hl := fun w m hr hw => lift_nat_New _ w m hr _ hw)) ?_
  rintro _ _ ⟨v, h0, rfl, rfl, H⟩
  refine AtL.pures hT 1 _ _ _ _ rfl ?_
  refine AtL.nil ?_
  refine AtE.then_n (AtE.go ?_)
  refine AtC.ret ?_
  exact AtE.retN (rs := [.tmp 0]) rfl (ResAll.cons (ResAt.tmp rfl) ResAll.nil) rfl H

theorem lift_nat_trim (x0 : Sl) (w : World) (m : Heap) (hr : Rel ⟨m, []⟩ w.heap) (S : Sl → Heap → Prop) (H : nat_trim x0 m S) :
    Calls Tryz.prog 67 #[Sl.toV x0] w (Post ⟨w, m⟩ Sl.toV S) := by
  refine Calls.lift (args := [Sl.toV x0]) Tryz.func67 rfl Tryz.ntmps67 (Nat.le_of_ble_eq_true rfl) hr (nat_trim x0 m S) H (fun H => ?_)
  refine AtC.pick (ts := [0]) rfl ?_
  unfold nat_trim at H
  refine AtC.seqR ?_
  refine AtL.pures hT 1 _ _ _ _ rfl ?_
  refine AtL.nil ?_
  refine AtE.then_n (AtE.go ?_)
  refine AtC.seq ?_
  refine AtC.block ?_
  refine AtC.loopM (fun (s0 : Sl) => [(0, Sl.toV s0)]) (fun (s0 : Sl) => []) [] [0] [] [] H (by exact rfl) (by exact rfl) (by exact rfl) (by decide) (by exact rfl) (fun Kp1 s0 h0 H Q1 HK1 => ?_)
  refine AtC.seq ?_
  refine AtC.joinSeq (β := Unit) (fun (t0 : Bool) (bb : Unit) => [(14, Value.bool t0)]) (fun (t0 : Bool) (bb : Unit) => []) [0] [] H (by exact rfl) (by exact rfl) (fun t0 bb h0u1 H => ?_) (fun J2 H HK2 => ?_)
  ·
   refine AtC.condB H rfl (fun H => ?_) (fun H => ?_)
   ·
    refine AtC.skip ?_
    refine AtE.then_n (AtE.go ?_)
    refine AtC.block ?_
    refine AtC.region ?_
    refine AtL.pures hT 4 _ _ _ _ rfl ?_
    refine AtL.sl (hT := hT) H rfl rfl rfl rfl rfl rfl rfl (fun h => by cases h <;> rfl) rfl (fun v_1 H => ?_)
    refine AtL.pures hT 1 _ _ _ _ rfl ?_
    refine AtL.nil ?_
    refine AtE.blk_n ?_
    exact AtE.then_n ((HK1 _ _ H).pickP (ts := [0]) (is := []) rfl rfl (by decide) rfl)
   ·
    refine AtC.exit ?_
    refine AtE.then_x ?_
    refine AtE.then_x ?_
    refine AtE.blk_hit ?_
    refine AtE.then_n (AtE.go ?_)
    refine AtC.seqR ?_
    refine AtL.pures hT 2 _ _ _ _ rfl ?_
    refine AtL.nil ?_
    refine AtE.then_n (AtE.go ?_)
    refine AtC.ret ?_
    exact AtE.retN (rs := [.tmp 2]) rfl (ResAll.cons (ResAt.tmp rfl) ResAll.nil) rfl H
  ·
   refine AtC.region ?_
   refine AtL.pures hT 4 _ _ _ _ rfl ?_
   refine AtL.splitB (t := 6) H rfl (fun H => ?_) (fun H => ?_)
   ·
    refine AtL.yes rfl rfl rfl ?_
    refine AtL.pures hT 1 _ _ _ _ rfl ?_
    refine AtL.yes rfl rfl rfl ?_
    refine AtL.pures hT 1 _ _ _ _ rfl ?_
    refine AtL.yes rfl rfl rfl ?_
    refine AtL.pures hT 1 _ _ _ _ rfl ?_
    refine AtL.yes rfl rfl rfl ?_
    refine AtL.pures hT 1 _ _ _ _ rfl ?_
    refine AtL.yes rfl rfl rfl ?_
    obtain ⟨a_, hc2, hd2, H⟩ := H
    refine AtL.q rfl (Quiet1.idxS (s := _) hT rfl rfl rfl rfl rfl hc2 hd2) ?_
    refine AtL.yes rfl rfl rfl ?_
    obtain ⟨v, hc3, H⟩ := H
    refine AtL.q rfl (Quiet1.load hT rfl rfl rfl hc3) ?_
    refine AtL.yes rfl rfl rfl ?_
    refine AtL.pures hT 1 _ _ _ _ rfl ?_
    refine AtL.pures hT 1 _ _ _ _ rfl ?_
    refine AtL.nil ?_
    exact AtE.then_n ((HK2 _ () _ H).pickP (ts := [14, 0]) (is := []) rfl rfl (by decide) rfl)
   ·
    refine AtL.noF rfl rfl rfl (by decide) rfl ?_
    refine AtL.noF rfl rfl rfl (by decide) rfl ?_
    refine AtL.noF rfl rfl rfl (by decide) rfl ?_
    refine AtL.noF rfl rfl rfl (by decide) rfl ?_
    refine AtL.noF rfl rfl rfl (by decide) rfl ?_
    refine AtL.noF rfl rfl rfl (by decide) rfl ?_
    refine AtL.noF rfl rfl rfl (by decide) rfl ?_
    refine AtL.pures hT 1 _ _ _ _ rfl ?_
    refine AtL.nil ?_
    exact AtE.then_n ((HK2 _ () _ H).pickP (ts := [14, 0]) (is := []) rfl rfl (by decide) rfl)

theorem lift_nat_times (x0 : Sl) (y : Sl) (w : World) (m : Heap) (hr : Rel ⟨m, []⟩ w.heap) (S : Sl → Heap → Prop) (H : nat_times x0 y m S) :
    Calls Tryz.prog 66 #[Sl.toV x0, Sl.toV y] w (Post ⟨w, m⟩ Sl.toV S) := by
  refine Calls.lift (args := [Sl.toV x0, Sl.toV y]) Tryz.func66 rfl Tryz.ntmps66 (Nat.le_of_ble_eq_true rfl) hr (nat_times x0 y m S) H (fun H => ?_)
  refine AtC.pick (ts := [0, 1]) rfl ?_
  unfold nat_times at H
  refine AtC.seqR ?_
  refine AtL.pures hT 1 _ _ _ _ rfl ?_
  refine AtL.nil ?_
  refine AtE.then_n (AtE.go ?_)
  refine AtC.seqR ?_
  refine AtL.pures hT 5 _ _ _ _ rfl ?_
  replace H := H _ rfl
  refine AtL.e rfl (EffX.mkS hT rfl rfl rfl rfl rfl rfl rfl rfl (by decide) H) ?_
  rintro _ _ ⟨v, h0, rfl, rfl, H⟩
  refine AtL.pures hT 1 _ _ _ _ rfl ?_
  refine AtL.nil ?_
  refine AtE.then_n (AtE.go ?_)
  refine AtC.seq ?_
  refine AtC.seqR ?_
  refine AtL.pures hT 3 _ _ _ _ rfl ?_
  refine AtL.nil ?_
  refine AtE.then_n (AtE.go ?_)
  refine AtC.block ?_
  refine AtC.loopM (fun (s0 : Int) => [(19, Value.int .i64 s0)]) (fun (s0 : Int) => []) [1, 5, 17, 18] [19, 1, 5, 17, 18] [] [] H (by exact rfl) (by exact rfl) (by exact rfl) (by decide) (by exact rfl) (fun Kp1 s0 h0u1 H Q1 HK1 => ?_)
  refine AtC.seqR ?_
  refine AtL.pures hT 1 _ _ _ _ rfl ?_
  refine AtL.nil ?_
  refine AtE.then_n (AtE.go ?_)
  refine AtC.seq ?_
  refine AtC.condB H rfl (fun H => ?_) (fun H => ?_)
  ·
   refine AtC.skip ?_
   refine AtE.then_n (AtE.go ?_)
   refine AtC.seq ?_
   refine AtC.block ?_
   refine AtC.seqR ?_
   refine AtL.pures hT 1 _ _ _ _ rfl ?_
   obtain ⟨a_, hc1, hd1, H⟩ := H
   refine AtL.q rfl (Quiet1.idxS (s := _) hT rfl rfl rfl rfl rfl hc1 hd1) ?_
   obtain ⟨v_1, hc2, H⟩ := H
   refine AtL.q rfl (Quiet1.load hT rfl rfl rfl hc2) ?_
   refine AtL.pures hT 2 _ _ _ _ rfl ?_
   refine AtL.nil ?_
   refine AtE.then_n (AtE.go ?_)
   refine AtC.seqR ?_
   refine AtL.pures hT 1 _ _ _ _ rfl ?_
   refine AtL.nil ?_
   refine AtE.then_n (AtE.go ?_)
   refine AtC.seq ?_
   refine AtC.seqR ?_
   refine AtL.pures hT 3 _ _ _ _ rfl ?_
   refine AtL.nil ?_
   refine AtE.then_n (AtE.go ?_)
   refine AtC.block ?_
   refine AtC.loopM (fun (s0u1 : Int × Int) => [(8, Value.int .u64 s0u1.1), (26, Value.int .i64 s0u1.2)]) (fun (s0u1 : Int × Int) => []) [1, 5, 6, 7, 17, 18, 19, 24, 25] [8, 26, 1, 5, 6, 7, 17, 18, 19, 24, 25] [] [] H (by exact rfl) (by exact rfl) (by exact rfl) (by decide) (by exact rfl) (fun Kp4 s0u1 h0u2 H Q4 HK4 => ?_)
   refine AtC.seqR ?_
   refine AtL.pures hT 1 _ _ _ _ rfl ?_
   refine AtL.nil ?_
   refine AtE.then_n (AtE.go ?_)
   refine AtC.seq ?_
   refine AtC.condB H rfl (fun H => ?_) (fun H => ?_)
   ·
    refine AtC.skip ?_
    refine AtE.then_n (AtE.go ?_)
    refine AtC.seq ?_
    refine AtC.block ?_
    refine AtC.seqR ?_
    refine AtL.pures hT 1 _ _ _ _ rfl ?_
    obtain ⟨a_1_, hc4, hd4, H⟩ := H
    refine AtL.q rfl (Quiet1.idxS (s := _) hT rfl rfl rfl rfl rfl hc4 hd4) ?_
    obtain ⟨v_2, hc5, H⟩ := H
    refine AtL.q rfl (Quiet1.load hT rfl rfl rfl hc5) ?_
    refine AtL.pures hT 2 _ _ _ _ rfl ?_
    refine AtL.nil ?_
    refine AtE.then_n (AtE.go ?_)
    refine AtC.seqR ?_
    refine AtL.pures hT 10 _ _ _ _ rfl ?_
    obtain ⟨a_2_, hc6, hd6, H⟩ := H
    refine AtL.q rfl (Quiet1.idxS (s := _) hT rfl rfl rfl rfl rfl hc6 hd6) ?_
    obtain ⟨v_3, hc7, H⟩ := H
    refine AtL.q rfl (Quiet1.load hT rfl rfl rfl hc7) ?_
    refine AtL.pures hT 4 _ _ _ _ rfl ?_
    replace H := H _ rfl
    refine AtL.nil ?_
    refine AtE.then_n (AtE.go ?_)
    refine AtC.seqR ?_
    refine AtL.pures hT 6 _ _ _ _ rfl ?_
    obtain ⟨a_3_, hc8, hd8, H⟩ := H
    refine AtL.q rfl (Quiet1.idxS (s := _) hT rfl rfl rfl rfl rfl hc8 hd8) ?_
    refine AtL.e rfl (EffX.store hT rfl rfl rfl rfl rfl H) ?_
    rintro _ _ ⟨h0u3, rfl, H⟩
    refine AtL.nil ?_
    refine AtE.then_n (AtE.go ?_)
    refine AtC.region ?_
    refine AtL.pures hT 3 _ _ _ _ rfl ?_
    replace H := H _ rfl
    refine AtL.nil ?_
    refine AtE.blk_n ?_
    refine AtE.then_n (AtE.go ?_)
    refine AtC.region ?_
    refine AtL.pures hT 2 _ _ _ _ rfl ?_
    refine AtL.nil ?_
    exact AtE.then_n ((HK4 _ _ H).pickP (ts := [8, 26, 1, 5, 6, 7, 17, 18, 19, 24, 25]) (is := []) rfl rfl (by decide) rfl)
   ·
    refine AtC.exit ?_
    refine AtE.then_x ?_
    refine AtE.then_x ?_
    refine AtE.blk_hit ?_
    refine AtE.then_n (AtE.go ?_)
    refine AtC.region ?_
    refine AtL.pures hT 7 _ _ _ _ rfl ?_
    obtain ⟨a_4_, hc9, hd9, H⟩ := H
    refine AtL.q rfl (Quiet1.idxS (s := _) hT rfl rfl rfl rfl rfl hc9 hd9) ?_
    refine AtL.e rfl (EffX.store hT rfl rfl rfl rfl rfl H) ?_
    rintro _ _ ⟨h0u4, rfl, H⟩
    refine AtL.nil ?_
    refine AtE.blk_n ?_
    refine AtE.then_n (AtE.go ?_)
    refine AtC.region ?_
    refine AtL.pures hT 2 _ _ _ _ rfl ?_
    refine AtL.nil ?_
    exact AtE.then_n ((HK1 _ _ H).pickP (ts := [19, 1, 5, 17, 18]) (is := []) rfl rfl (by decide) rfl)
  ·
   refine AtC.exit ?_
   refine AtE.then_x ?_
   refine AtE.then_x ?_
   refine AtE.blk_hit ?_
   refine AtE.then_n (AtE.go ?_)
   refine AtC.seqR ?_
   refine AtL.pures hT 2 _ _ _ _ rfl ?_
   refine AtL.nil ?_
   refine AtE.then_n (AtE.go ?_)
   refine AtC.ret ?_
   exact AtE.retN (rs := [.tmp 4]) rfl (ResAll.cons (ResAt.tmp rfl) ResAll.nil) rfl H

theorem lift_slices_Clone_api_Nat_uint32 (s0 : Sl) (w : World) (m : Heap) (hr : Rel ⟨m, []⟩ w.heap) (S : Sl → Heap → Prop) (H : slices_Clone_api_Nat_uint32 s0 m S) :
    Calls Tryz.prog 50 #[Sl.toV s0] w (Post ⟨w, m⟩ Sl.toV S) := by
  refine Calls.lift (args := [Sl.toV s0]) Tryz.func50 rfl Tryz.ntmps50 (Nat.le_of_ble_eq_true rfl) hr (slices_Clone_api_Nat_uint32 s0 m S) H (fun H => ?_)
  refine AtC.pick (ts := [0]) rfl ?_
  unfold slices_Clone_api_Nat_uint32 at H
  refine AtC.seqR ?_
  refine AtL.pures hT 1 _ _ _ _ rfl ?_
  refine AtL.nil ?_
  refine AtE.then_n (AtE.go ?_)
  refine AtC.seq ?_
  refine AtC.seqR ?_
  refine AtL.pures hT 1 _ _ _ _ rfl ?_
  refine AtL.q rfl (Quiet1.eqNilS hT rfl rfl rfl rfl) ?_
  refine AtL.nil ?_
  refine AtE.then_n (AtE.go ?_)
  refine AtC.condB H rfl (fun H => ?_) (fun H => ?_)
  ·
   refine AtC.seqR ?_
   refine AtL.pures hT 1 _ _ _ _ rfl ?_
   refine AtL.nil ?_
   refine AtE.then_n (AtE.go ?_)
   refine AtC.ret ?_
   refine AtE.then_r ?_
   exact AtE.retN (rs := [.tmp 2]) rfl (ResAll.cons (ResAt.tmp rfl) ResAll.nil) rfl H
  ·
   refine AtC.skip ?_
   refine AtE.then_n (AtE.go ?_)
   refine AtC.seqR ?_
   refine AtLX.bs (hT := hT) (cs := []) H rfl rfl rfl rfl rfl rfl rfl rfl rfl (fun a h0 H => ?_)
   refine AtL.pures hT 1 _ _ _ _ rfl ?_
   refine AtL.e rfl (EffX.appendS (s := _) (u := _) hT rfl rfl rfl rfl rfl rfl rfl rfl rfl rfl (by decide) H) ?_
   rintro _ _ ⟨v_1, h0u1, rfl, rfl, H⟩
   refine AtL.pures hT 1 _ _ _ _ rfl ?_
   refine AtL.nil ?_
   refine AtE.then_n (AtE.go ?_)
   refine AtC.ret ?_
   exact AtE.retN (rs := [.tmp 2]) rfl (ResAll.cons (ResAt.tmp rfl) ResAll.nil) rfl H

theorem lift_nat_Bench_fit (b : (Option Addr)) (x0 : Sl) (w : World) (m : Heap) (hr : Rel ⟨m, []⟩ w.heap) (S : Sl → Heap → Prop) (H : nat_Bench_fit b x0 m S) :
    Calls Tryz.prog 65 #[Value.pointer b, Sl.toV x0] w (Post ⟨w, m⟩ Sl.toV S) := by
  refine Calls.lift (args := [Value.pointer b, Sl.toV x0]) Tryz.func65 rfl Tryz.ntmps65 (Nat.le_of_ble_eq_true rfl) hr (nat_Bench_fit b x0 m S) H (fun H => ?_)
  refine AtC.pick (ts := [0, 1]) rfl ?_
  unfold nat_Bench_fit at H
  refine AtC.seqR ?_
  refine AtL.pures hT 1 _ _ _ _ rfl ?_
  refine AtL.nil ?_
  refine AtE.then_n (AtE.go ?_)
  refine AtC.seqR ?_
  refine AtL.pures hT 1 _ _ _ _ rfl ?_
  refine AtL.e rfl (EffX.call (f := 67) (sh := fun h => nat_trim _ h _) (H0 := H) rfl Tryz.call67 rfl (hl := fun w m hr hw => lift_nat_trim _ w m hr _ hw)) ?_
  rintro _ _ ⟨v, h0, rfl, rfl, H⟩
  refine AtL.pures hT 1 _ _ _ _ rfl ?_
  refine AtL.nil ?_
  refine AtE.then_n (AtE.go ?_)
  refine AtC.joinSeq (β := Unit) (fun (t0 : Unit) (bb : Unit) => []) (fun (t0 : Unit) (bb : Unit) => []) [0, 1] [] H (by exact rfl) (by exact rfl) (fun t0 bb h0u1 H => ?_) (fun J1 H HK1 => ?_)
  ·
   refine AtC.seq ?_
   refine AtC.seqR ?_
   refine AtL.pures hT 1 _ _ _ _ rfl ?_
   obtain ⟨a_4, hc7, H⟩ := H
   refine AtL.q rfl (Quiet1.nilChk rfl rfl hc7) ?_
   refine AtL.pures hT 1 _ _ _ _ rfl ?_
   obtain ⟨v_3, hc8, H⟩ := H
   refine AtL.q rfl (Quiet1.load hT rfl rfl rfl hc8) ?_
   refine AtL.nil ?_
   refine AtE.then_n (AtE.go ?_)
   refine AtC.condB H rfl (fun H => ?_) (fun H => ?_)
   ·
    refine AtC.seqR ?_
    refine AtL.pures hT 1 _ _ _ _ rfl ?_
    refine AtL.nil ?_
    refine AtE.then_n (AtE.go ?_)
    refine AtC.ret ?_
    refine AtE.then_r ?_
    exact AtE.retN (rs := [.tmp 4]) rfl (ResAll.cons (ResAt.tmp rfl) ResAll.nil) rfl H
   ·
    refine AtC.skip ?_
    refine AtE.then_n (AtE.go ?_)
    refine AtC.seqR ?_
    refine AtL.pures hT 1 _ _ _ _ rfl ?_
    refine AtL.e rfl (EffX.call (f := 50) (sh := fun h => slices_Clone_api_Nat_uint32 _ h _) (H0 := H) rfl Tryz.call50 rfl (hl := fun w m hr hw => lift_slices_Clone_api_Nat_uint32 _ w m hr _ hw)) ?_
    rintro _ _ ⟨v_4, h0u4, rfl, rfl, H⟩
    refine AtL.pures hT 1 _ _ _ _ rfl ?_
    refine AtL.nil ?_
    refine AtE.then_n (AtE.go ?_)
    refine AtC.ret ?_
    exact AtE.retN (rs := [.tmp 4]) rfl (ResAll.cons (ResAt.tmp rfl) ResAll.nil) rfl H
  ·
   refine AtC.region ?_
   refine AtL.pures hT 2 _ _ _ _ rfl ?_
   obtain ⟨a, hc1, H⟩ := H
   refine AtL.q rfl (Quiet1.nilChk rfl rfl hc1) ?_
   refine AtL.pures hT 1 _ _ _ _ rfl ?_
   obtain ⟨v_1, hc2, H⟩ := H
   refine AtL.q rfl (Quiet1.load hT rfl rfl rfl hc2) ?_
   refine AtL.pures hT 1 _ _ _ _ rfl ?_
   refine AtL.splitB (t := 12) H rfl (fun H => ?_) (fun H => ?_)
   ·
    refine AtL.noF rfl rfl rfl (by decide) rfl ?_
    refine AtL.noF rfl rfl rfl (by decide) rfl ?_
    refine AtL.noF rfl rfl rfl (by decide) rfl ?_
    refine AtL.noF rfl rfl rfl (by decide) rfl ?_
    refine AtL.noF rfl rfl rfl (by decide) rfl ?_
    refine AtL.noF rfl rfl rfl (by decide) rfl ?_
    refine AtL.noF rfl rfl rfl (by decide) rfl ?_
    refine AtL.pures hT 1 _ _ _ _ rfl ?_
    obtain ⟨a_1, hc3, H⟩ := H
    refine AtL.q rfl (Quiet1.nilChk rfl rfl hc3) ?_
    refine AtL.pures hT 1 _ _ _ _ rfl ?_
    refine AtL.e rfl (EffX.store hT rfl rfl rfl rfl rfl H) ?_
    rintro _ _ ⟨h0u2, rfl, H⟩
    refine AtL.nil ?_
    exact AtE.then_n ((HK1 _ () _ H).pickP (ts := [0, 1]) (is := []) rfl rfl (by decide) rfl)
   ·
    refine AtL.yes rfl rfl rfl ?_
    refine AtL.pures hT 1 _ _ _ _ rfl ?_
    refine AtL.yes rfl rfl rfl ?_
    refine AtL.pures hT 1 _ _ _ _ rfl ?_
    refine AtL.yes rfl rfl rfl ?_
    refine AtL.pures hT 1 _ _ _ _ rfl ?_
    refine AtL.yes rfl rfl rfl ?_
    obtain ⟨a_2, hc4, H⟩ := H
    refine AtL.q rfl (Quiet1.nilChk rfl rfl hc4) ?_
    refine AtL.yes rfl rfl rfl ?_
    refine AtL.pures hT 1 _ _ _ _ rfl ?_
    refine AtL.yes rfl rfl rfl ?_
    obtain ⟨v_2, hc5, H⟩ := H
    refine AtL.q rfl (Quiet1.load hT rfl rfl rfl hc5) ?_
    refine AtL.yes rfl rfl rfl ?_
    refine AtL.pures hT 1 _ _ _ _ rfl ?_
    refine AtL.pures hT 1 _ _ _ _ rfl ?_
    obtain ⟨a_3, hc6, H⟩ := H
    refine AtL.q rfl (Quiet1.nilChk rfl rfl hc6) ?_
    refine AtL.pures hT 1 _ _ _ _ rfl ?_
    refine AtL.e rfl (EffX.store hT rfl rfl rfl rfl rfl H) ?_
    rintro _ _ ⟨h0u3, rfl, H⟩
    refine AtL.nil ?_
    exact AtE.then_n ((HK1 _ () _ H).pickP (ts := [0, 1]) (is := []) rfl rfl (by decide) rfl)

theorem lift_nat_Bench_Mul (b : (Option Addr)) (x0 : Sl) (y : Sl) (w : World) (m : Heap) (hr : Rel ⟨m, []⟩ w.heap) (S : Sl → Heap → Prop) (H : nat_Bench_Mul b x0 y m S) :
    Calls Tryz.prog 42 #[Value.pointer b, Sl.toV x0, Sl.toV y] w (Post ⟨w, m⟩ Sl.toV S) := by
  refine Calls.lift (args := [Value.pointer b, Sl.toV x0, Sl.toV y]) Tryz.func42 rfl Tryz.ntmps42 (Nat.le_of_ble_eq_true rfl) hr (nat_Bench_Mul b x0 y m S) H (fun H => ?_)
  refine AtC.pick (ts := [0, 1, 2]) rfl ?_
  unfold nat_Bench_Mul at H
  refine AtC.seqR ?_
  refine AtL.pures hT 1 _ _ _ _ rfl ?_
  refine AtL.nil ?_
  refine AtE.then_n (AtE.go ?_)
  refine AtC.seqR ?_
  refine AtL.pures hT 2 _ _ _ _ rfl ?_
  refine AtL.e rfl (EffX.call (f := 67) (sh := fun h => nat_trim _ h _) (H0 := H) rfl Tryz.call67 rfl (hl := fun w m hr hw => lift_nat_trim _ w m hr _ hw)) ?_
  rintro _ _ ⟨v, h0, rfl, rfl, H⟩
  refine AtL.pures hT 1 _ _ _ _ rfl ?_
  refine AtL.e rfl (EffX.call (f := 67) (sh := fun h => nat_trim _ h _) (H0 := H) rfl Tryz.call67 rfl (hl := fun w m hr hw => lift_nat_trim _ w m hr _ hw)) ?_
  rintro _ _ ⟨v_1, h0u1, rfl, rfl, H⟩
  refine AtL.e rfl (EffX.call (f := 66) (sh := fun h => nat_times _ _ h _) (H0 := H) rfl Tryz.call66 rfl (hl := fun w m hr hw => lift_nat_times _ _ w m hr _ hw)) ?_
  rintro _ _ ⟨v_2, h0u2, rfl, rfl, H⟩
  refine AtL.e rfl (EffX.call (f := 65) (sh := fun h => nat_Bench_fit _ _ h _) (H0 := H) rfl Tryz.call65 rfl (hl := fun w m hr hw => lift_nat_Bench_fit _ _ w m hr _ hw)) ?_
  rintro _ _ ⟨v_3, h0u3, rfl, rfl, H⟩
  refine AtL.pures hT 1 _ _ _ _ rfl ?_
  refine AtL.nil ?_
  refine AtE.then_n (AtE.go ?_)
  refine AtC.ret ?_
  exact AtE.retN (rs := [.tmp 6]) rfl (ResAll.cons (ResAt.tmp rfl) ResAll.nil) rfl H

theorem lift_nat_plus (x0 : Sl) (y : Sl) (w : World) (m : Heap) (hr : Rel ⟨m, []⟩ w.heap) (S : Sl → Heap → Prop) (H : nat_plus x0 y m S) :
    Calls Tryz.prog 81 #[Sl.toV x0, Sl.toV y] w (Post ⟨w, m⟩ Sl.toV S) := by
  refine Calls.lift (args := [Sl.toV x0, Sl.toV y]) Tryz.func81 rfl Tryz.ntmps81 (Nat.le_of_ble_eq_true rfl) hr (nat_plus x0 y m S) H (fun H => ?_)
  refine AtC.pick (ts := [0, 1]) rfl ?_
  unfold nat_plus at H
  refine AtC.seqR ?_
  refine AtL.pures hT 1 _ _ _ _ rfl ?_
  refine AtL.nil ?_
  refine AtE.then_n (AtE.go ?_)
  refine AtC.seqR ?_
  refine AtL.pures hT 1 _ _ _ _ rfl ?_
  refine AtL.nil ?_
  refine AtE.then_n (AtE.go ?_)
  refine AtC.seq ?_
  refine AtC.seqR ?_
  refine AtL.pures hT 6 _ _ _ _ rfl ?_
  refine AtL.nil ?_
  refine AtE.then_n (AtE.go ?_)
  refine AtC.block ?_
  refine AtC.loopM (fun (s0 : Sl × Int × Int) => [(4, Sl.toV s0.1), (5, Value.int .u64 s0.2.1), (14, Value.int .i64 s0.2.2)]) (fun (s0 : Sl × Int × Int) => []) [0, 1, 13] [4, 5, 14, 0, 1, 13] [] [] H (by exact rfl) (by exact rfl) (by exact rfl) (by decide) (by exact rfl) (fun Kp1 s0 h0 H Q1 HK1 => ?_)
  refine AtC.seqR ?_
  refine AtL.pures hT 1 _ _ _ _ rfl ?_
  refine AtL.nil ?_
  refine AtE.then_n (AtE.go ?_)
  refine AtC.seq ?_
  refine AtC.condB H rfl (fun H => ?_) (fun H => ?_)
  ·
   refine AtC.skip ?_
   refine AtE.then_n (AtE.go ?_)
   refine AtC.seq ?_
   refine AtC.block ?_
   refine AtC.seqR ?_
   refine AtL.pures hT 2 _ _ _ _ rfl ?_
   refine AtL.nil ?_
   refine AtE.then_n (AtE.go ?_)
   refine AtC.seq ?_
   refine AtC.seqR ?_
   refine AtL.pures hT 2 _ _ _ _ rfl ?_
   refine AtL.q rfl (Quiet1.buildA (cs := [_, _]) hT rfl rfl rfl rfl rfl rfl) ?_
   refine AtL.pures hT 1 _ _ _ _ rfl ?_
   refine AtL.nil ?_
   refine AtE.then_n (AtE.go ?_)
   refine AtC.block ?_
   refine AtC.loopM (fun (s0u1 : Int × Int) => [(5, Value.int .u64 s0u1.1), (20, Value.int .i64 s0u1.2)]) (fun (s0u1 : Int × Int) => []) [0, 1, 4, 6, 13, 14, 19] [5, 20, 0, 1, 4, 6, 13, 14, 19] [] [] H (by exact rfl) (by exact rfl) (by exact rfl) (by decide) (by exact rfl) (fun Kp2 s0u1 h0u1 H Q2 HK2 => ?_)
   refine AtC.seqR ?_
   refine AtL.pures hT 1 _ _ _ _ rfl ?_
   refine AtL.nil ?_
   refine AtE.then_n (AtE.go ?_)
   refine AtC.seq ?_
   refine AtC.condB H rfl (fun H => ?_) (fun H => ?_)
   ·
    refine AtC.skip ?_
    refine AtE.then_n (AtE.go ?_)
    refine AtC.joinSeq (β := Unit) (fun (t0 : Int) (bb : Unit) => [(5, Value.int .u64 t0)]) (fun (t0 : Int) (bb : Unit) => []) [0, 1, 4, 6, 13, 14, 19, 20] [] H (by exact rfl) (by exact rfl) (fun t0 bb h0u2 H => ?_) (fun J3 H HK3 => ?_)
    ·
     refine AtC.region ?_
     refine AtL.pures hT 2 _ _ _ _ rfl ?_
     refine AtL.nil ?_
     exact AtE.then_n ((HK2 _ _ H).pickP (ts := [5, 20, 0, 1, 4, 6, 13, 14, 19]) (is := []) rfl rfl (by decide) rfl)
    ·
     refine AtC.block ?_
     refine AtC.seqR ?_
     obtain ⟨hd3, v, hc3, H⟩ := H
     refine AtL.q rfl (Quiet1.idxV hT rfl rfl rfl rfl rfl rfl hd3 hc3) ?_
     refine AtL.pures hT 1 _ _ _ _ rfl ?_
     refine AtL.nil ?_
     refine AtE.then_n (AtE.go ?_)
     refine AtC.seqR ?_
     refine AtL.pures hT 4 _ _ _ _ rfl ?_
     refine AtL.nil ?_
     refine AtE.then_n (AtE.go ?_)
     refine AtC.condB H rfl (fun H => ?_) (fun H => ?_)
     ·
      refine AtC.region ?_
      refine AtL.pures hT 3 _ _ _ _ rfl ?_
      obtain ⟨a_, hc4, hd4, H⟩ := H
      refine AtL.q rfl (Quiet1.idxS (s := _) hT rfl rfl rfl rfl rfl hc4 hd4) ?_
      obtain ⟨v_1, hc5, H⟩ := H
      refine AtL.q rfl (Quiet1.load hT rfl rfl rfl hc5) ?_
      refine AtL.pures hT 3 _ _ _ _ rfl ?_
      replace H := H _ rfl
      refine AtL.nil ?_
      refine AtE.blk_n ?_
      exact AtE.then_n ((HK3 _ () _ H).pickP (ts := [5, 0, 1, 4, 6, 13, 14, 19, 20]) (is := []) rfl rfl (by decide) rfl)
     ·
      refine AtC.skip ?_
      refine AtE.blk_n ?_
      exact AtE.then_n ((HK3 _ () _ H).pickP (ts := [5, 0, 1, 4, 6, 13, 14, 19, 20]) (is := []) rfl rfl (by decide) rfl)
   ·
    refine AtC.exit ?_
    refine AtE.then_x ?_
    refine AtE.then_x ?_
    refine AtE.blk_hit ?_
    refine AtE.then_n (AtE.go ?_)
    refine AtC.seqR ?_
    refine AtL.pures hT 3 _ _ _ _ rfl ?_
    refine AtLX.bs (hT := hT) (cs := [_]) H rfl rfl rfl rfl rfl rfl rfl rfl rfl (fun a_1 h0u3 H => ?_)
    refine AtL.e rfl (EffX.appendS (s := _) (u := _) hT rfl rfl rfl rfl rfl rfl rfl rfl rfl rfl (by decide) H) ?_
    rintro _ _ ⟨v_3, h0u4, rfl, rfl, H⟩
    refine AtL.pures hT 1 _ _ _ _ rfl ?_
    refine AtL.nil ?_
    refine AtE.then_n (AtE.go ?_)
    refine AtC.region ?_
    refine AtL.pures hT 3 _ _ _ _ rfl ?_
    replace H := H _ rfl
    refine AtL.nil ?_
    refine AtE.blk_n ?_
    refine AtE.then_n (AtE.go ?_)
    refine AtC.region ?_
    refine AtL.pures hT 2 _ _ _ _ rfl ?_
    refine AtL.nil ?_
    exact AtE.then_n ((HK1 _ _ H).pickP (ts := [4, 5, 14, 0, 1, 13]) (is := []) rfl rfl (by decide) rfl)
  ·
   refine AtC.exit ?_
   refine AtE.then_x ?_
   refine AtE.then_x ?_
   refine AtE.blk_hit ?_
   refine AtE.then_n (AtE.go ?_)
   refine AtC.seqR ?_
   refine AtL.pures hT 3 _ _ _ _ rfl ?_
   refine AtLX.bs (hT := hT) (cs := [_]) H rfl rfl rfl rfl rfl rfl rfl rfl rfl (fun a_2 h0u5 H => ?_)
   refine AtL.e rfl (EffX.appendS (s := _) (u := _) hT rfl rfl rfl rfl rfl rfl rfl rfl rfl rfl (by decide) H) ?_
   rintro _ _ ⟨v_5, h0u6, rfl, rfl, H⟩
   refine AtL.pures hT 1 _ _ _ _ rfl ?_
   refine AtL.nil ?_
   refine AtE.then_n (AtE.go ?_)
   refine AtC.ret ?_
   exact AtE.retN (rs := [.tmp 4]) rfl (ResAll.cons (ResAt.tmp rfl) ResAll.nil) rfl H

theorem lift_nat_Bench_Add (b : (Option Addr)) (x0 : Sl) (y : Sl) (w : World) (m : Heap) (hr : Rel ⟨m, []⟩ w.heap) (S : Sl → Heap → Prop) (H : nat_Bench_Add b x0 y m S) :
    Calls Tryz.prog 58 #[Value.pointer b, Sl.toV x0, Sl.toV y] w (Post ⟨w, m⟩ Sl.toV S) := by
  refine Calls.lift (args := [Value.pointer b, Sl.toV x0, Sl.toV y]) Tryz.func58 rfl Tryz.ntmps58 (Nat.le_of_ble_eq_true rfl) hr (nat_Bench_Add b x0 y m S) H (fun H => ?_)
  refine AtC.pick (ts := [0, 1, 2]) rfl ?_
  unfold nat_Bench_Add at H
  refine AtC.seqR ?_
  refine AtL.pures hT 1 _ _ _ _ rfl ?_
  refine AtL.nil ?_
  refine AtE.then_n (AtE.go ?_)
  refine AtC.seqR ?_
  refine AtL.pures hT 3 _ _ _ _ rfl ?_
  refine AtL.e rfl (EffX.call (f := 81) (sh := fun h => nat_plus _ _ h _) (H0 := H) rfl Tryz.call81 rfl (hl := fun w m hr hw => lift_nat_plus _ _ w m hr _ hw)) ?_
  rintro _ _ ⟨v, h0, rfl, rfl, H⟩
  refine AtL.e rfl (EffX.call (f := 65) (sh := fun h => nat_Bench_fit _ _ h _) (H0 := H) rfl Tryz.call65 rfl (hl := fun w m hr hw => lift_nat_Bench_fit _ _ w m hr _ hw)) ?_
  rintro _ _ ⟨v_1, h0u1, rfl, rfl, H⟩
  refine AtL.pures hT 1 _ _ _ _ rfl ?_
  refine AtL.nil ?_
  refine AtE.then_n (AtE.go ?_)
  refine AtC.ret ?_
  exact AtE.retN (rs := [.tmp 6]) rfl (ResAll.cons (ResAt.tmp rfl) ResAll.nil) rfl H

theorem lift_nat_Bench_Parse (b : (Option Addr)) (s0 : ByteArray) (w : World) (m : Heap) (hr : Rel ⟨m, []⟩ w.heap) (S : (Sl × Bool) → Heap → Prop) (H : nat_Bench_Parse b s0 m S) :
    Calls Tryz.prog 55 #[Value.pointer b, Value.string s0] w (Post ⟨w, m⟩ (fun r => Value.tuple #[Sl.toV r.1, Value.bool r.2]) S) := by
  refine Calls.lift (args := [Value.pointer b, Value.string s0]) Tryz.func55 rfl Tryz.ntmps55 (Nat.le_of_ble_eq_true rfl) hr (nat_Bench_Parse b s0 m S) H (fun H => ?_)
  refine AtC.pick (ts := [0, 1]) rfl ?_
  unfold nat_Bench_Parse at H
  refine AtC.seqR ?_
  refine AtL.pures hT 2 _ _ _ _ rfl ?_
  refine AtL.nil ?_
  refine AtE.then_n (AtE.go ?_)
  refine AtC.seq ?_
  refine AtC.joinSeq (β := Unit) (fun (t0 : Bool) (bb : Unit) => [(16, Value.bool t0)]) (fun (t0 : Bool) (bb : Unit) => []) [0, 1] [] H (by exact rfl) (by exact rfl) (fun t0 bb h0 H => ?_) (fun J1 H HK1 => ?_)
  ·
   refine AtC.condB H rfl (fun H => ?_) (fun H => ?_)
   ·
    refine AtC.seqR ?_
    refine AtL.pures hT 2 _ _ _ _ rfl ?_
    refine AtL.nil ?_
    refine AtE.then_n (AtE.go ?_)
    refine AtC.ret ?_
    refine AtE.then_r ?_
    exact AtE.retN (rs := [.tmp 4, .tmp 5]) rfl (ResAll.cons (ResAt.tmp rfl) (ResAll.cons (ResAt.tmp rfl) ResAll.nil)) rfl H
   ·
    refine AtC.skip ?_
    refine AtE.then_n (AtE.go ?_)
    refine AtC.seqR ?_
    refine AtL.pures hT 1 _ _ _ _ rfl ?_
    refine AtL.nil ?_
    refine AtE.then_n (AtE.go ?_)
    refine AtC.seq ?_
    refine AtC.seqR ?_
    refine AtL.pures hT 3 _ _ _ _ rfl ?_
    refine AtL.nil ?_
    refine AtE.then_n (AtE.go ?_)
    refine AtC.block ?_
    refine AtC.loopM (fun (s0u1 : Int) => [(19, Value.int .i64 s0u1)]) (fun (s0u1 : Int) => []) [0, 1, 6, 18] [19, 0, 1, 6, 18] [] [] H (by exact rfl) (by exact rfl) (by exact rfl) (by decide) (by exact rfl) (fun Kp2 s0u1 h0u1 H Q2 HK2 => ?_)
    refine AtC.seqR ?_
    refine AtL.pures hT 1 _ _ _ _ rfl ?_
    refine AtL.nil ?_
    refine AtE.then_n (AtE.go ?_)
    refine AtC.seq ?_
    refine AtC.condB H rfl (fun H => ?_) (fun H => ?_)
    ·
     refine AtC.skip ?_
     refine AtE.then_n (AtE.go ?_)
     refine AtC.seq ?_
     refine AtC.block ?_
     refine AtC.seqR ?_
     refine AtL.pures hT 2 _ _ _ _ rfl ?_
     refine AtL.nil ?_
     refine AtE.then_n (AtE.go ?_)
     refine AtC.joinSeq (β := Unit) (fun (t0u1 : Bool) (bb_1 : Unit) => [(31, Value.bool t0u1)]) (fun (t0u1 : Bool) (bb_1 : Unit) => []) [0, 1, 6, 18, 19] [] H (by exact rfl) (by exact rfl) (fun t0u1 bb_1 h0u2 H => ?_) (fun J3 H HK3 => ?_)
     ·
      refine AtC.condB H rfl (fun H => ?_) (fun H => ?_)
      ·
       refine AtC.seqR ?_
       refine AtL.pures hT 2 _ _ _ _ rfl ?_
       refine AtL.nil ?_
       refine AtE.then_n (AtE.go ?_)
       refine AtC.ret ?_
       refine AtE.blk_r ?_
       refine AtE.then_r ?_
       refine AtE.then_r ?_
       refine AtE.blk_r ?_
       refine AtE.then_r ?_
       exact AtE.retN (rs := [.tmp 4, .tmp 5]) rfl (ResAll.cons (ResAt.tmp rfl) (ResAll.cons (ResAt.tmp rfl) ResAll.nil)) rfl H
      ·
       refine AtC.skip ?_
       refine AtE.blk_n ?_
       refine AtE.then_n (AtE.go ?_)
       refine AtC.region ?_
       refine AtL.pures hT 2 _ _ _ _ rfl ?_
       refine AtL.nil ?_
       exact AtE.then_n ((HK2 _ _ H).pickP (ts := [19, 0, 1, 6, 18]) (is := []) rfl rfl (by decide) rfl)
     ·
      refine AtC.region ?_
      refine AtL.pures hT 2 _ _ _ _ rfl ?_
      obtain ⟨hd3, v, hc3, H⟩ := H
      refine AtL.q rfl (Quiet1.idxStr hT rfl rfl rfl rfl hd3 hc3) ?_
      refine AtL.pures hT 2 _ _ _ _ rfl ?_
      refine AtL.splitB (t := 26) H rfl (fun H => ?_) (fun H => ?_)
      ·
       refine AtL.noF rfl rfl rfl (by decide) rfl ?_
       refine AtL.noF rfl rfl rfl (by decide) rfl ?_
       refine AtL.noF rfl rfl rfl (by decide) rfl ?_
       refine AtL.noF rfl rfl rfl (by decide) rfl ?_
       refine AtL.pures hT 1 _ _ _ _ rfl ?_
       refine AtL.nil ?_
       exact AtE.then_n ((HK3 _ () _ H).pickP (ts := [31, 0, 1, 6, 18, 19]) (is := []) rfl rfl (by decide) rfl)
      ·
       refine AtL.yes rfl rfl rfl ?_
       refine AtL.pures hT 1 _ _ _ _ rfl ?_
       refine AtL.yes rfl rfl rfl ?_
       refine AtL.pures hT 1 _ _ _ _ rfl ?_
       refine AtL.yes rfl rfl rfl ?_
       obtain ⟨hd4, v_1, hc4, H⟩ := H
       refine AtL.q rfl (Quiet1.idxStr hT rfl rfl rfl rfl hd4 hc4) ?_
       refine AtL.yes rfl rfl rfl ?_
       refine AtL.pures hT 1 _ _ _ _ rfl ?_
       refine AtL.pures hT 1 _ _ _ _ rfl ?_
       refine AtL.nil ?_
       exact AtE.then_n ((HK3 _ () _ H).pickP (ts := [31, 0, 1, 6, 18, 19]) (is := []) rfl rfl (by decide) rfl)
    ·
     refine AtC.exit ?_
     refine AtE.then_x ?_
     refine AtE.then_x ?_
     refine AtE.blk_hit ?_
     refine AtE.then_n (AtE.go ?_)
     refine AtC.seq ?_
     refine AtC.seqR ?_
     refine AtL.pures hT 3 _ _ _ _ rfl ?_
     refine AtL.nil ?_
     refine AtE.then_n (AtE.go ?_)
     refine AtC.block ?_
     refine AtC.loopM (fun (s0u2 : Sl × Int) => [(6, Sl.toV s0u2.1), (35, Value.int .i64 s0u2.2)]) (fun (s0u2 : Sl × Int) => []) [0, 1, 34] [6, 35, 0, 1, 34] [] [] H (by exact rfl) (by exact rfl) (by exact rfl) (by decide) (by exact rfl) (fun Kp6 s0u2 h0u3 H Q6 HK6 => ?_)
     refine AtC.seqR ?_
     refine AtL.pures hT 1 _ _ _ _ rfl ?_
     refine AtL.nil ?_
     refine AtE.then_n (AtE.go ?_)
     refine AtC.seq ?_
     refine AtC.condB H rfl (fun H => ?_) (fun H => ?_)
     ·
      refine AtC.skip ?_
      refine AtE.then_n (AtE.go ?_)
      refine AtC.seq ?_
      refine AtC.block ?_
      refine AtC.seqR ?_
      refine AtL.pures hT 2 _ _ _ _ rfl ?_
      refine AtL.nil ?_
      refine AtE.then_n (AtE.go ?_)
      refine AtC.joinSeq (β := Unit) (fun (t0u2 : Sl) (bb_2 : Unit) => [(6, Sl.toV t0u2)]) (fun (t0u2 : Sl) (bb_2 : Unit) => []) [0, 1, 34, 35] [] H (by exact rfl) (by exact rfl) (fun t0u2 bb_2 h0u4 H => ?_) (fun J7 H HK7 => ?_)
      ·
       refine AtC.seqR ?_
       refine AtL.pures hT 1 _ _ _ _ rfl ?_
       obtain ⟨a_5, hc8, H⟩ := H
       refine AtL.q rfl (Quiet1.nilChk rfl rfl hc8) ?_
       refine AtL.pures hT 1 _ _ _ _ rfl ?_
       obtain ⟨v_14, hc9, H⟩ := H
       refine AtL.q rfl (Quiet1.load hT rfl rfl rfl hc9) ?_
       refine AtL.nil ?_
       refine AtE.then_n (AtE.go ?_)
       refine AtC.condB H rfl (fun H => ?_) (fun H => ?_)
       ·
        refine AtC.seqR ?_
        refine AtL.pures hT 2 _ _ _ _ rfl ?_
        refine AtL.nil ?_
        refine AtE.then_n (AtE.go ?_)
        refine AtC.ret ?_
        refine AtE.blk_r ?_
        refine AtE.then_r ?_
        refine AtE.then_r ?_
        refine AtE.blk_r ?_
        refine AtE.then_r ?_
        exact AtE.retN (rs := [.tmp 4, .tmp 5]) rfl (ResAll.cons (ResAt.tmp rfl) (ResAll.cons (ResAt.tmp rfl) ResAll.nil)) rfl H
       ·
        refine AtC.skip ?_
        refine AtE.blk_n ?_
        refine AtE.then_n (AtE.go ?_)
        refine AtC.region ?_
        refine AtL.pures hT 2 _ _ _ _ rfl ?_
        refine AtL.nil ?_
        exact AtE.then_n ((HK6 _ _ H).pickP (ts := [6, 35, 0, 1, 34]) (is := []) rfl rfl (by decide) rfl)
      ·
       obtain ⟨hd7, v_2, hc7, H⟩ := H
       apply AtC.stages [3, 4, 10, 11, 12] [[], [], [], [], [3], [], [], [], [], [], [], [3, 4, 10], [3, 4, 10, 11]] [[], [], [], [], [1, 2, 3], [], [], [5, 6], [5, 6, 7], [5, 6, 7, 8], [5, 6, 7, 8, 9], [0, 1, 2, 3, 4, 5, 6, 7, 8, 9, 10], [0, 1, 2, 3, 4, 5, 6, 7, 8, 9, 10, 11]] hmix (by kernel_rfl) [(38, _), (39, _), (40, _), (43, _), (44, _), (45, _), (46, _), (47, _)] rfl 5 rfl
       refine Stg.go [0, 1, 2, 5, 6, 7, 8, 9] [3, 10] rfl rfl (QAll.cons (QOp.p hT rfl rfl rfl rfl rfl) (QAll.cons (QOp.p hT rfl rfl rfl rfl rfl) (QAll.cons (QOp.p hT rfl rfl rfl rfl rfl) (QAll.cons (QOp.p hT rfl rfl rfl rfl rfl) (QAll.cons (QOp.p hT rfl rfl rfl rfl rfl) (QAll.cons (QOp.q rfl rfl (Quiet1.idxStr hT rfl rfl rfl rfl hd7 hc7) rfl rfl) (QAll.cons (QOp.p hT rfl rfl rfl rfl rfl) (QAll.cons (QOp.p hT rfl rfl rfl rfl rfl) QAll.nil)))))))) ?_
       refine EAll.cons ?_ ?_
       ·
        replace H := H.1
        refine EOp.e rfl rfl rfl (EffX.buildS2 (cs := [_]) hT rfl rfl rfl rfl rfl rfl rfl rfl H) ?_
        rintro _ _ ⟨a, h0u5, rfl, rfl, H⟩
        apply Stg.next [(41, _)] rfl rfl
        refine Stg.go [0, 1, 2, 5, 6, 7, 8, 9] [4, 10] rfl rfl (QAll.cons (QOp.p hT rfl rfl rfl rfl rfl) (QAll.cons (QOp.p hT rfl rfl rfl rfl rfl) (QAll.cons (QOp.p hT rfl rfl rfl rfl rfl) (QAll.cons (QOp.p hT rfl rfl rfl rfl rfl) (QAll.cons (QOp.p hT rfl rfl rfl rfl rfl) (QAll.cons (QOp.q rfl rfl (Quiet1.idxStr hT rfl rfl rfl rfl hd7 hc7) rfl rfl) (QAll.cons (QOp.p hT rfl rfl rfl rfl rfl) (QAll.cons (QOp.p hT rfl rfl rfl rfl rfl) QAll.nil)))))))) ?_
        refine EAll.cons ?_ ?_
        ·
         replace H := H.1
         refine EOp.e rfl rfl rfl (EffX.call (f := 42) (sh := fun h => nat_Bench_Mul _ _ _ h _) (H0 := H) rfl Tryz.call42 rfl (hl := fun w m hr hw => lift_nat_Bench_Mul _ _ _ w m hr _ hw)) ?_
         rintro _ _ ⟨v_4, h0u6, rfl, rfl, H⟩
         apply Stg.next [(42, _)] rfl rfl
         refine Stg.go [0, 5, 6, 7, 8, 9] [10] rfl rfl (QAll.cons (QOp.p hT rfl rfl rfl rfl rfl) (QAll.cons (QOp.p hT rfl rfl rfl rfl rfl) (QAll.cons (QOp.p hT rfl rfl rfl rfl rfl) (QAll.cons (QOp.q rfl rfl (Quiet1.idxStr hT rfl rfl rfl rfl hd7 hc7) rfl rfl) (QAll.cons (QOp.p hT rfl rfl rfl rfl rfl) (QAll.cons (QOp.p hT rfl rfl rfl rfl rfl) QAll.nil)))))) ?_
         refine EAll.cons ?_ EAll.nil
         refine EOp.e rfl rfl rfl (EffX.buildS2 (cs := [_]) hT rfl rfl rfl rfl rfl rfl rfl rfl H) ?_
         rintro _ _ ⟨a_1, h0u7, rfl, rfl, H⟩
         apply Stg.next [(48, _)] rfl rfl
         refine Stg.go [0] [11] rfl rfl (QAll.cons (QOp.p hT rfl rfl rfl rfl rfl) QAll.nil) ?_
         refine EAll.cons ?_ EAll.nil
         refine EOp.e rfl rfl rfl (EffX.call (f := 58) (sh := fun h => nat_Bench_Add _ _ _ h _) (H0 := H) rfl Tryz.call58 rfl (hl := fun w m hr hw => lift_nat_Bench_Add _ _ _ w m hr _ hw)) ?_
         rintro _ _ ⟨v_6, h0u8, rfl, rfl, H⟩
         apply Stg.next [(49, _)] rfl rfl
         refine Stg.go [] [12] rfl rfl QAll.nil ?_
         refine EAll.cons ?_ EAll.nil
         refine EOp.e rfl rfl rfl (Eff.ofPure hT rfl) ?_
         rintro _ _ ⟨rfl, rfl⟩
         apply Stg.next [(6, _)] rfl rfl
         refine Stg.fin [] rfl rfl QAll.nil ?_
         exact AtE.then_n ((HK7 _ () _ H).pickP (ts := [6, 0, 1, 34, 35]) (is := []) rfl rfl (by decide) rfl)
        refine EAll.cons ?_ EAll.nil
        replace H := H.2
        refine EOp.e rfl rfl rfl (EffX.buildS2 (cs := [_]) hT rfl rfl rfl rfl rfl rfl rfl rfl H) ?_
        rintro _ _ ⟨a_2, h0u9, rfl, rfl, H⟩
        apply Stg.next [(48, _)] rfl rfl
        refine Stg.go [0, 1, 2] [4] rfl rfl (QAll.cons (QOp.p hT rfl rfl rfl rfl rfl) (QAll.cons (QOp.p hT rfl rfl rfl rfl rfl) (QAll.cons (QOp.p hT rfl rfl rfl rfl rfl) QAll.nil))) ?_
        refine EAll.cons ?_ EAll.nil
        refine EOp.e rfl rfl rfl (EffX.call (f := 42) (sh := fun h => nat_Bench_Mul _ _ _ h _) (H0 := H) rfl Tryz.call42 rfl (hl := fun w m hr hw => lift_nat_Bench_Mul _ _ _ w m hr _ hw)) ?_
        rintro _ _ ⟨v_8, h0u10, rfl, rfl, H⟩
        apply Stg.next [(42, _)] rfl rfl
        refine Stg.go [0] [11] rfl rfl (QAll.cons (QOp.p hT rfl rfl rfl rfl rfl) QAll.nil) ?_
        refine EAll.cons ?_ EAll.nil
        refine EOp.e rfl rfl rfl (EffX.call (f := 58) (sh := fun h => nat_Bench_Add _ _ _ h _) (H0 := H) rfl Tryz.call58 rfl (hl := fun w m hr hw => lift_nat_Bench_Add _ _ _ w m hr _ hw)) ?_
        rintro _ _ ⟨v_9, h0u11, rfl, rfl, H⟩
        apply Stg.next [(49, _)] rfl rfl
        refine Stg.go [] [12] rfl rfl QAll.nil ?_
        refine EAll.cons ?_ EAll.nil
        refine EOp.e rfl rfl rfl (Eff.ofPure hT rfl) ?_
        rintro _ _ ⟨rfl, rfl⟩
        apply Stg.next [(6, _)] rfl rfl
        refine Stg.fin [] rfl rfl QAll.nil ?_
        exact AtE.then_n ((HK7 _ () _ H).pickP (ts := [6, 0, 1, 34, 35]) (is := []) rfl rfl (by decide) rfl)
       refine EAll.cons ?_ EAll.nil
       replace H := H.2
       refine EOp.e rfl rfl rfl (EffX.buildS2 (cs := [_]) hT rfl rfl rfl rfl rfl rfl rfl rfl H) ?_
       rintro _ _ ⟨a_3, h0u12, rfl, rfl, H⟩
       apply Stg.next [(48, _)] rfl rfl
       refine Stg.go [0, 1, 2] [3] rfl rfl (QAll.cons (QOp.p hT rfl rfl rfl rfl rfl) (QAll.cons (QOp.p hT rfl rfl rfl rfl rfl) (QAll.cons (QOp.p hT rfl rfl rfl rfl rfl) QAll.nil))) ?_
       refine EAll.cons ?_ EAll.nil
       refine EOp.e rfl rfl rfl (EffX.buildS2 (cs := [_]) hT rfl rfl rfl rfl rfl rfl rfl rfl H) ?_
       rintro _ _ ⟨a_4, h0u13, rfl, rfl, H⟩
       apply Stg.next [(41, _)] rfl rfl
       refine Stg.go [0, 1, 2] [4] rfl rfl (QAll.cons (QOp.p hT rfl rfl rfl rfl rfl) (QAll.cons (QOp.p hT rfl rfl rfl rfl rfl) (QAll.cons (QOp.p hT rfl rfl rfl rfl rfl) QAll.nil))) ?_
       refine EAll.cons ?_ EAll.nil
       refine EOp.e rfl rfl rfl (EffX.call (f := 42) (sh := fun h => nat_Bench_Mul _ _ _ h _) (H0 := H) rfl Tryz.call42 rfl (hl := fun w m hr hw => lift_nat_Bench_Mul _ _ _ w m hr _ hw)) ?_
       rintro _ _ ⟨v_12, h0u14, rfl, rfl, H⟩
       apply Stg.next [(42, _)] rfl rfl
       refine Stg.go [0] [11] rfl rfl (QAll.cons (QOp.p hT rfl rfl rfl rfl rfl) QAll.nil) ?_
       refine EAll.cons ?_ EAll.nil
       refine EOp.e rfl rfl rfl (EffX.call (f := 58) (sh := fun h => nat_Bench_Add _ _ _ h _) (H0 := H) rfl Tryz.call58 rfl (hl := fun w m hr hw => lift_nat_Bench_Add _ _ _ w m hr _ hw)) ?_
       rintro _ _ ⟨v_13, h0u15, rfl, rfl, H⟩
       apply Stg.next [(49, _)] rfl rfl
       refine Stg.go [] [12] rfl rfl QAll.nil ?_
       refine EAll.cons ?_ EAll.nil
       refine EOp.e rfl rfl rfl (Eff.ofPure hT rfl) ?_
       rintro _ _ ⟨rfl, rfl⟩
       apply Stg.next [(6, _)] rfl rfl
       refine Stg.fin [] rfl rfl QAll.nil ?_
       exact AtE.then_n ((HK7 _ () _ H).pickP (ts := [6, 0, 1, 34, 35]) (is := []) rfl rfl (by decide) rfl)
     ·
      refine AtC.exit ?_
      refine AtE.then_x ?_
      refine AtE.then_x ?_
      refine AtE.blk_hit ?_
      refine AtE.then_n (AtE.go ?_)
      refine AtC.seqD hmix (by kernel_rfl) ?_
      refine AtD.pures hT 2 _ _ _ _ rfl ?_
      obtain ⟨a_6, hc10, H⟩ := H
      refine AtD.q rfl (Quiet1.nilChk rfl rfl hc10) ?_
      refine AtD.pures hT 1 _ _ _ _ rfl ?_
      obtain ⟨v_15, hc11, H⟩ := H
      refine AtD.q rfl (Quiet1.load hT rfl rfl rfl hc11) ?_
      refine AtD.pures hT 3 _ _ _ _ rfl ?_
      refine AtD.nil ?_
      refine AtE.then_n (AtE.go ?_)
      refine AtC.ret ?_
      exact AtE.retN (rs := [.tmp 4, .tmp 5]) rfl (ResAll.cons (ResAt.tmp rfl) (ResAll.cons (ResAt.tmp rfl) ResAll.nil)) rfl H
  ·
   refine AtC.region ?_
   refine AtL.pures hT 4 _ _ _ _ rfl ?_
   refine AtL.splitB (t := 12) H rfl (fun H => ?_) (fun H => ?_)
   ·
    refine AtL.noF rfl rfl rfl (by decide) rfl ?_
    refine AtL.noF rfl rfl rfl (by decide) rfl ?_
    refine AtL.noF rfl rfl rfl (by decide) rfl ?_
    refine AtL.pures hT 1 _ _ _ _ rfl ?_
    refine AtL.nil ?_
    exact AtE.then_n ((HK1 _ () _ H).pickP (ts := [16, 0, 1]) (is := []) rfl rfl (by decide) rfl)
   ·
    refine AtL.yes rfl rfl rfl ?_
    refine AtL.pures hT 1 _ _ _ _ rfl ?_
    refine AtL.yes rfl rfl rfl ?_
    refine AtL.pures hT 1 _ _ _ _ rfl ?_
    refine AtL.yes rfl rfl rfl ?_
    refine AtL.pures hT 1 _ _ _ _ rfl ?_
    refine AtL.pures hT 1 _ _ _ _ rfl ?_
    refine AtL.nil ?_
    exact AtE.then_n ((HK1 _ () _ H).pickP (ts := [16, 0, 1]) (is := []) rfl rfl (by decide) rfl)

theorem lift_math_bits_Mul32 (x0 : Int) (y : Int) (w : World) (m : Heap) (hr : Rel ⟨m, []⟩ w.heap) (S : (Int × Int) → Heap → Prop) (H : math_bits_Mul32 x0 y m S) :
    Calls Tryz.prog 89 #[Value.int .u32 x0, Value.int .u32 y] w (Post ⟨w, m⟩ (fun r => Value.tuple #[(Value.int .u32) r.1, (Value.int .u32) r.2]) S) := by
  refine Calls.lift (args := [Value.int .u32 x0, Value.int .u32 y]) Tryz.func89 rfl Tryz.ntmps89 (Nat.le_of_ble_eq_true rfl) hr (math_bits_Mul32 x0 y m S) H (fun H => ?_)
  refine AtC.pick (ts := [0, 1]) rfl ?_
  unfold math_bits_Mul32 at H
  refine AtC.seqR ?_
  refine AtL.pures hT 2 _ _ _ _ rfl ?_
  refine AtL.nil ?_
  refine AtE.then_n (AtE.go ?_)
  refine AtC.seqR ?_
  refine AtL.pures hT 6 _ _ _ _ rfl ?_
  replace H := H _ rfl
  refine AtL.nil ?_
  refine AtE.then_n (AtE.go ?_)
  refine AtC.seqR ?_
  refine AtL.pures hT 7 _ _ _ _ rfl ?_
  replace H := H _ rfl
  replace H := H _ rfl
  refine AtL.nil ?_
  refine AtE.then_n (AtE.go ?_)
  refine AtC.ret ?_
  exact AtE.retN (rs := [.tmp 4, .tmp 5]) rfl (ResAll.cons (ResAt.tmp rfl) (ResAll.cons (ResAt.tmp rfl) ResAll.nil)) rfl H

theorem lift_math_bits_Mul64 (x0 : Int) (y : Int) (w : World) (m : Heap) (hr : Rel ⟨m, []⟩ w.heap) (S : (Int × Int) → Heap → Prop) (H : math_bits_Mul64 x0 y m S) :
    Calls Tryz.prog 90 #[Value.int .u64 x0, Value.int .u64 y] w (Post ⟨w, m⟩ (fun r => Value.tuple #[(Value.int .u64) r.1, (Value.int .u64) r.2]) S) := by
  refine Calls.lift (args := [Value.int .u64 x0, Value.int .u64 y]) Tryz.func90 rfl Tryz.ntmps90 (Nat.le_of_ble_eq_true rfl) hr (math_bits_Mul64 x0 y m S) H (fun H => ?_)
  refine AtC.pick (ts := [0, 1]) rfl ?_
  unfold math_bits_Mul64 at H
  refine AtC.seqR ?_
  refine AtL.pures hT 2 _ _ _ _ rfl ?_
  refine AtL.nil ?_
  refine AtE.then_n (AtE.go ?_)
  refine AtC.seqR ?_
  refine AtL.pures hT 3 _ _ _ _ rfl ?_
  replace H := H _ rfl
  refine AtL.nil ?_
  refine AtE.then_n (AtE.go ?_)
  refine AtC.seqR ?_
  refine AtL.pures hT 3 _ _ _ _ rfl ?_
  replace H := H _ rfl
  refine AtL.nil ?_
  refine AtE.then_n (AtE.go ?_)
  refine AtC.seqR ?_
  refine AtL.pures hT 3 _ _ _ _ rfl ?_
  replace H := H _ rfl
  refine AtL.nil ?_
  refine AtE.then_n (AtE.go ?_)
  refine AtC.seqR ?_
  refine AtL.pures hT 3 _ _ _ _ rfl ?_
  replace H := H _ rfl
  refine AtL.nil ?_
  refine AtE.then_n (AtE.go ?_)
  refine AtC.seqR ?_
  refine AtL.pures hT 4 _ _ _ _ rfl ?_
  replace H := H _ rfl
  refine AtL.nil ?_
  refine AtE.then_n (AtE.go ?_)
  refine AtC.seqR ?_
  refine AtL.pures hT 7 _ _ _ _ rfl ?_
  replace H := H _ rfl
  refine AtL.nil ?_
  refine AtE.then_n (AtE.go ?_)
  refine AtC.seqR ?_
  refine AtL.pures hT 3 _ _ _ _ rfl ?_
  replace H := H _ rfl
  refine AtL.nil ?_
  refine AtE.then_n (AtE.go ?_)
  refine AtC.seqR ?_
  refine AtL.pures hT 3 _ _ _ _ rfl ?_
  replace H := H _ rfl
  refine AtL.nil ?_
  refine AtE.then_n (AtE.go ?_)
  refine AtC.seqR ?_
  refine AtL.pures hT 6 _ _ _ _ rfl ?_
  replace H := H _ rfl
  refine AtL.nil ?_
  refine AtE.then_n (AtE.go ?_)
  refine AtC.seqR ?_
  refine AtL.pures hT 9 _ _ _ _ rfl ?_
  replace H := H _ rfl
  refine AtL.nil ?_
  refine AtE.then_n (AtE.go ?_)
  refine AtC.seqR ?_
  refine AtL.pures hT 4 _ _ _ _ rfl ?_
  replace H := H _ rfl
  refine AtL.nil ?_
  refine AtE.then_n (AtE.go ?_)
  refine AtC.ret ?_
  exact AtE.retN (rs := [.tmp 4, .tmp 5]) rfl (ResAll.cons (ResAt.tmp rfl) (ResAll.cons (ResAt.tmp rfl) ResAll.nil)) rfl H

theorem lift_math_bits_Mul (x0 : Int) (y : Int) (w : World) (m : Heap) (hr : Rel ⟨m, []⟩ w.heap) (S : (Int × Int) → Heap → Prop) (H : math_bits_Mul x0 y m S) :
    Calls Tryz.prog 75 #[Value.int .u64 x0, Value.int .u64 y] w (Post ⟨w, m⟩ (fun r => Value.tuple #[(Value.int .u64) r.1, (Value.int .u64) r.2]) S) := by
  refine Calls.lift (args := [Value.int .u64 x0, Value.int .u64 y]) Tryz.func75 rfl Tryz.ntmps75 (Nat.le_of_ble_eq_true rfl) hr (math_bits_Mul x0 y m S) H (fun H => ?_)
  refine AtC.pick (ts := [0, 1]) rfl ?_
  unfold math_bits_Mul at H
  refine AtC.seqR ?_
  refine AtL.pures hT 2 _ _ _ _ rfl ?_
  refine AtL.nil ?_
  refine AtE.then_n (AtE.go ?_)
  refine AtC.seq ?_
  refine AtC.cond (b := false) rfl nofun (fun _ => ?_)
  refine AtC.skip ?_
  refine AtE.then_n (AtE.go ?_)
  refine AtC.seqR ?_
  refine AtL.pures hT 2 _ _ _ _ rfl ?_
  refine AtL.e rfl (EffX.call (f := 90) (sh := fun h => math_bits_Mul64 _ _ h _) (H0 := H) rfl Tryz.call90 rfl (hl := fun w m hr hw => lift_math_bits_Mul64 _ _ w m hr _ hw)) ?_
  rintro _ _ ⟨v, h0, rfl, rfl, H⟩
  refine AtL.pures hT 5 _ _ _ _ rfl ?_
  refine AtL.nil ?_
  refine AtE.then_n (AtE.go ?_)
  refine AtC.seqR ?_
  refine AtL.pures hT 4 _ _ _ _ rfl ?_
  refine AtL.nil ?_
  refine AtE.then_n (AtE.go ?_)
  refine AtC.ret ?_
  exact AtE.retN (rs := [.tmp 4, .tmp 5]) rfl (ResAll.cons (ResAt.tmp rfl) (ResAll.cons (ResAt.tmp rfl) ResAll.nil)) rfl H

theorem lift_internal_stringslite_HasPrefix (s0 : ByteArray) (prefix0 : ByteArray) (w : World) (m : Heap) (hr : Rel ⟨m, []⟩ w.heap) (S : Bool → Heap → Prop) (H : internal_stringslite_HasPrefix s0 prefix0 m S) :
    Calls Tryz.prog 91 #[Value.string s0, Value.string prefix0] w (Post ⟨w, m⟩ Value.bool S) := by
  refine Calls.lift (args := [Value.string s0, Value.string prefix0]) Tryz.func91 rfl Tryz.ntmps91 (Nat.le_of_ble_eq_true rfl) hr (internal_stringslite_HasPrefix s0 prefix0 m S) H (fun H => ?_)
  refine AtC.pick (ts := [0, 1]) rfl ?_
  unfold internal_stringslite_HasPrefix at H
  refine AtC.seqR ?_
  refine AtL.pures hT 1 _ _ _ _ rfl ?_
  refine AtL.nil ?_
  refine AtE.then_n (AtE.go ?_)
  refine AtC.joinSeq (β := Unit) (fun (t0 : Bool) (bb : Unit) => [(4, Value.bool t0)]) (fun (t0 : Bool) (bb : Unit) => []) [] [] H (by exact rfl) (by exact rfl) (fun t0 bb h0 H => ?_) (fun J1 H HK1 => ?_)
  ·
   refine AtC.ret ?_
   exact AtE.retN (rs := [.tmp 4]) rfl (ResAll.cons (ResAt.tmp rfl) ResAll.nil) rfl H
  ·
   refine AtC.region ?_
   refine AtL.pures hT 6 _ _ _ _ rfl ?_
   refine AtL.splitB (t := 10) H rfl (fun H => ?_) (fun H => ?_)
   ·
    refine AtL.yes rfl rfl rfl ?_
    refine AtL.pures hT 1 _ _ _ _ rfl ?_
    refine AtL.yes rfl rfl rfl ?_
    refine AtL.pures hT 1 _ _ _ _ rfl ?_
    refine AtL.yes rfl rfl rfl ?_
    refine AtL.pures hT 1 _ _ _ _ rfl ?_
    refine AtL.yes rfl rfl rfl ?_
    refine AtL.slStr (hT := hT) H rfl rfl rfl rfl rfl rfl (fun v H => ?_)
    refine AtL.yes rfl rfl rfl ?_
    refine AtL.pures hT 1 _ _ _ _ rfl ?_
    refine AtL.yes rfl rfl rfl ?_
    refine AtL.pures hT 1 _ _ _ _ rfl ?_
    refine AtL.pures hT 2 _ _ _ _ rfl ?_
    refine AtL.nil ?_
    exact AtE.then_n ((HK1 _ () _ H).pickP (ts := [4]) (is := []) rfl rfl (by decide) rfl)
   ·
    refine AtL.noF rfl rfl rfl (by decide) rfl ?_
    refine AtL.noF rfl rfl rfl (by decide) rfl ?_
    refine AtL.noF rfl rfl rfl (by decide) rfl ?_
    refine AtL.noF rfl rfl rfl (by decide) rfl ?_
    refine AtL.noF rfl rfl rfl (by decide) rfl ?_
    refine AtL.noF rfl rfl rfl (by decide) rfl ?_
    refine AtL.pures hT 2 _ _ _ _ rfl ?_
    refine AtL.nil ?_
    exact AtE.then_n ((HK1 _ () _ H).pickP (ts := [4]) (is := []) rfl rfl (by decide) rfl)

theorem lift_strings_HasPrefix (s0 : ByteArray) (prefix0 : ByteArray) (w : World) (m : Heap) (hr : Rel ⟨m, []⟩ w.heap) (S : Bool → Heap → Prop) (H : strings_HasPrefix s0 prefix0 m S) :
    Calls Tryz.prog 76 #[Value.string s0, Value.string prefix0] w (Post ⟨w, m⟩ Value.bool S) := by
  refine Calls.lift (args := [Value.string s0, Value.string prefix0]) Tryz.func76 rfl Tryz.ntmps76 (Nat.le_of_ble_eq_true rfl) hr (strings_HasPrefix s0 prefix0 m S) H (fun H => ?_)
  refine AtC.pick (ts := [0, 1]) rfl ?_
  unfold strings_HasPrefix at H
  refine AtC.seqR ?_
  refine AtL.pures hT 1 _ _ _ _ rfl ?_
  refine AtL.nil ?_
  refine AtE.then_n (AtE.go ?_)
  refine AtC.seqR ?_
  refine AtL.pures hT 2 _ _ _ _ rfl ?_
  refine AtL.e rfl (EffX.call (f := 91) (sh := fun h => internal_stringslite_HasPrefix _ _ h _) (H0 := H) rfl Tryz.call91 rfl (hl := fun w m hr hw => lift_internal_stringslite_HasPrefix _ _ w m hr _ hw)) ?_
  rintro _ _ ⟨v, h0, rfl, rfl, H⟩
  refine AtL.pures hT 1 _ _ _ _ rfl ?_
  refine AtL.nil ?_
  refine AtE.then_n (AtE.go ?_)
  refine AtC.ret ?_
  exact AtE.retN (rs := [.tmp 4]) rfl (ResAll.cons (ResAt.tmp rfl) ResAll.nil) rfl H

theorem lift_strings_Builder_grow (b : (Option Addr)) (n : Int) (w : World) (m : Heap) (hr : Rel ⟨m, []⟩ w.heap) (S : Unit → Heap → Prop) (H : strings_Builder_grow b n m S) :
    Calls Tryz.prog 93 #[Value.pointer b, Value.int .i64 n] w (Post ⟨w, m⟩ (fun _ => Value.tuple #[]) S) := by
  refine Calls.lift (args := [Value.pointer b, Value.int .i64 n]) Tryz.func93 rfl Tryz.ntmps93 (Nat.le_of_ble_eq_true rfl) hr (strings_Builder_grow b n m S) H (fun H => ?_)
  refine AtC.pick (ts := [0, 1]) rfl ?_
  unfold strings_Builder_grow at H
  exact H.elim

theorem lift_strings_Builder_Grow (b : (Option Addr)) (n : Int) (w : World) (m : Heap) (hr : Rel ⟨m, []⟩ w.heap) (S : Unit → Heap → Prop) (H : strings_Builder_Grow b n m S) :
    Calls Tryz.prog 77 #[Value.pointer b, Value.int .i64 n] w (Post ⟨w, m⟩ (fun _ => Value.tuple #[]) S) := by
  refine Calls.lift (args := [Value.pointer b, Value.int .i64 n]) Tryz.func77 rfl Tryz.ntmps77 (Nat.le_of_ble_eq_true rfl) hr (strings_Builder_Grow b n m S) H (fun H => ?_)
  refine AtC.pick (ts := [0, 1]) rfl ?_
  unfold strings_Builder_Grow at H
  refine AtC.seqR ?_
  refine AtL.pures hT 1 _ _ _ _ rfl ?_
  exact H.elim

theorem lift_strings_Builder_WriteString (b : (Option Addr)) (s0 : ByteArray) (w : World) (m : Heap) (hr : Rel ⟨m, []⟩ w.heap) (S : (Int × Value) → Heap → Prop) (H : strings_Builder_WriteString b s0 m S) :
    Calls Tryz.prog 78 #[Value.pointer b, Value.string s0] w (Post ⟨w, m⟩ (fun r => Value.tuple #[(Value.int .i64) r.1, id r.2]) S) := by
  refine Calls.lift (args := [Value.pointer b, Value.string s0]) Tryz.func78 rfl Tryz.ntmps78 (Nat.le_of_ble_eq_true rfl) hr (strings_Builder_WriteString b s0 m S) H (fun H => ?_)
  refine AtC.pick (ts := [0, 1]) rfl ?_
  unfold strings_Builder_WriteString at H
  refine AtC.seqR ?_
  refine AtL.pures hT 2 _ _ _ _ rfl ?_
  refine AtL.nil ?_
  refine AtE.then_n (AtE.go ?_)
  refine AtC.seqR ?_
  refine AtL.pures hT 1 _ _ _ _ rfl ?_
  exact H.elim

theorem lift_strings_Builder_Len (b : (Option Addr)) (w : World) (m : Heap) (hr : Rel ⟨m, []⟩ w.heap) (S : Int → Heap → Prop) (H : strings_Builder_Len b m S) :
    Calls Tryz.prog 79 #[Value.pointer b] w (Post ⟨w, m⟩ (Value.int .i64) S) := by
  refine Calls.lift (args := [Value.pointer b]) Tryz.func79 rfl Tryz.ntmps79 (Nat.le_of_ble_eq_true rfl) hr (strings_Builder_Len b m S) H (fun H => ?_)
  refine AtC.pick (ts := [0]) rfl ?_
  unfold strings_Builder_Len at H
  refine AtC.seqR ?_
  refine AtL.pures hT 1 _ _ _ _ rfl ?_
  refine AtL.nil ?_
  refine AtE.then_n (AtE.go ?_)
  refine AtC.seqR ?_
  refine AtL.pures hT 1 _ _ _ _ rfl ?_
  obtain ⟨a, hc0, H⟩ := H
  refine AtL.q rfl (Quiet1.nilChk rfl rfl hc0) ?_
  refine AtL.pures hT 1 _ _ _ _ rfl ?_
  obtain ⟨v, hc1, H⟩ := H
  refine AtL.q rfl (Quiet1.load hT rfl rfl rfl hc1) ?_
  refine AtL.pures hT 2 _ _ _ _ rfl ?_
  refine AtL.nil ?_
  refine AtE.then_n (AtE.go ?_)
  refine AtC.ret ?_
  exact AtE.retN (rs := [.tmp 2]) rfl (ResAll.cons (ResAt.tmp rfl) ResAll.nil) rfl H

theorem lift_strings_Builder_String (b : (Option Addr)) (w : World) (m : Heap) (hr : Rel ⟨m, []⟩ w.heap) (S : ByteArray → Heap → Prop) (H : strings_Builder_String b m S) :
    Calls Tryz.prog 80 #[Value.pointer b] w (Post ⟨w, m⟩ Value.string S) := by
  refine Calls.lift (args := [Value.pointer b]) Tryz.func80 rfl Tryz.ntmps80 (Nat.le_of_ble_eq_true rfl) hr (strings_Builder_String b m S) H (fun H => ?_)
  refine AtC.pick (ts := [0]) rfl ?_
  unfold strings_Builder_String at H
  exact H.elim

theorem lift_strings_Repeat (s0 : ByteArray) (count : Int) (w : World) (m : Heap) (hr : Rel ⟨m, []⟩ w.heap) (S : ByteArray → Heap → Prop) (H : strings_Repeat s0 count m S) :
    Calls Tryz.prog 56 #[Value.string s0, Value.int .i64 count] w (Post ⟨w, m⟩ Value.string S) := by
  refine Calls.lift (args := [Value.string s0, Value.int .i64 count]) Tryz.func56 rfl Tryz.ntmps56 (Nat.le_of_ble_eq_true rfl) hr (strings_Repeat s0 count m S) H (fun H => ?_)
  refine AtC.pick (ts := [0, 1]) rfl ?_
  unfold strings_Repeat at H
  refine AtC.seqR ?_
  refine AtL.pures hT 1 _ _ _ _ rfl ?_
  refine AtL.nil ?_
  refine AtE.then_n (AtE.go ?_)
  refine AtC.seq ?_
  refine AtC.seqR ?_
  refine AtL.pures hT 1 _ _ _ _ rfl ?_
  refine AtL.nil ?_
  refine AtE.then_n (AtE.go ?_)
  refine AtC.block ?_
  refine AtC.seqR ?_
  refine AtL.pures hT 2 _ _ _ _ rfl ?_
  refine AtL.nil ?_
  refine AtE.then_n (AtE.go ?_)
  refine AtC.condB H rfl (fun H => ?_) (fun H => ?_)
  ·
   refine AtC.seqR ?_
   refine AtL.pures hT 1 _ _ _ _ rfl ?_
   refine AtL.nil ?_
   refine AtE.then_n (AtE.go ?_)
   refine AtC.ret ?_
   refine AtE.blk_r ?_
   refine AtE.then_r ?_
   exact AtE.retN (rs := [.tmp 4]) rfl (ResAll.cons (ResAt.tmp rfl) ResAll.nil) rfl H
  ·
   refine AtC.seqR ?_
   refine AtL.pures hT 2 _ _ _ _ rfl ?_
   refine AtL.nil ?_
   refine AtE.then_n (AtE.go ?_)
   refine AtC.condB H rfl (fun H => ?_) (fun H => ?_)
   ·
    refine AtC.seqR ?_
    refine AtL.pures hT 2 _ _ _ _ rfl ?_
    refine AtL.nil ?_
    refine AtE.then_n (AtE.go ?_)
    refine AtC.ret ?_
    refine AtE.blk_r ?_
    refine AtE.then_r ?_
    exact AtE.retN (rs := [.tmp 4]) rfl (ResAll.cons (ResAt.tmp rfl) ResAll.nil) rfl H
   ·
    refine AtC.skip ?_
    refine AtE.blk_n ?_
    refine AtE.then_n (AtE.go ?_)
    refine AtC.joinSeq (β := Unit) (fun (t0 : Unit) (bb : Unit) => []) (fun (t0 : Unit) (bb : Unit) => []) [0, 1] [] H (by exact rfl) (by exact rfl) (fun t0 bb h0 H => ?_) (fun J1 H HK1 => ?_)
    ·
     refine AtC.seqR ?_
     refine AtL.pures hT 5 _ _ _ _ rfl ?_
     refine AtL.e rfl (EffX.call (f := 75) (sh := fun h => math_bits_Mul _ _ h _) (H0 := H) rfl Tryz.call75 rfl (hl := fun w m hr hw => lift_math_bits_Mul _ _ w m hr _ hw)) ?_
     rintro _ _ ⟨v, h0u1, rfl, rfl, H⟩
     refine AtL.pures hT 5 _ _ _ _ rfl ?_
     refine AtL.nil ?_
     refine AtE.then_n (AtE.go ?_)
     refine AtC.joinSeq (β := Unit) (fun (t0u1 : Unit) (bb_1 : Unit) => []) (fun (t0u1 : Unit) (bb_1 : Unit) => []) [0, 6] [] H (by exact rfl) (by exact rfl) (fun t0u1 bb_1 h0u2 H => ?_) (fun J2 H HK2 => ?_)
     ·
      refine AtC.seqR ?_
      refine AtL.pures hT 3 _ _ _ _ rfl ?_
      replace H := H _ rfl
      refine AtL.nil ?_
      refine AtE.then_n (AtE.go ?_)
      refine AtC.seq ?_
      refine AtC.seqR ?_
      refine AtL.pures hT 3 _ _ _ _ rfl ?_
      refine AtL.nil ?_
      refine AtE.then_n (AtE.go ?_)
      refine AtC.condB H rfl (fun H => ?_) (fun H => ?_)
      ·
       refine AtC.seqR ?_
       refine AtL.pures hT 1 _ _ _ _ rfl ?_
       refine AtL.nil ?_
       refine AtE.then_n (AtE.go ?_)
       refine AtC.ret ?_
       refine AtE.then_r ?_
       exact AtE.retN (rs := [.tmp 4]) rfl (ResAll.cons (ResAt.tmp rfl) ResAll.nil) rfl H
      ·
       refine AtC.skip ?_
       refine AtE.then_n (AtE.go ?_)
       refine AtC.joinSeq (β := Unit) (fun (t0u3 : Unit) (bb_3 : Unit) => []) (fun (t0u3 : Unit) (bb_3 : Unit) => []) [0, 7] [] H (by exact rfl) (by exact rfl) (fun t0u3 bb_3 h0u4 H => ?_) (fun J4 H HK4 => ?_)
       ·
        refine AtC.seqR ?_
        refine AtL.pures hT 2 _ _ _ _ rfl ?_
        refine AtL.nil ?_
        refine AtE.then_n (AtE.go ?_)
        refine AtC.joinSeq (β := Unit) (fun (t0u10 : Int) (bb_10 : Unit) => [(8, Value.int .i64 t0u10)]) (fun (t0u10 : Int) (bb_10 : Unit) => []) [0, 7] [] H (by exact rfl) (by exact rfl) (fun t0u10 bb_10 h0u16 H => ?_) (fun J17 H HK17 => ?_)
        ·
         refine AtC.seqR ?_
         refine AtL.e rfl (EffX.alloc hT rfl rfl H) ?_
         rintro _ _ ⟨b, h0u17, rfl, rfl, H⟩
         refine AtL.nil ?_
         refine AtE.then_n (AtE.go ?_)
         refine AtC.seqR ?_
         refine AtL.pures hT 1 _ _ _ _ rfl ?_
         refine AtL.e rfl (EffX.call (f := 77) (sh := fun h => strings_Builder_Grow _ _ h _) (H0 := H) rfl Tryz.call77 rfl (hl := fun w m hr hw => lift_strings_Builder_Grow _ _ w m hr _ hw)) ?_
         rintro _ _ ⟨v_12, h0u18, rfl, rfl, H⟩
         refine AtL.nil ?_
         refine AtE.then_n (AtE.go ?_)
         refine AtC.seqR ?_
         refine AtL.pures hT 1 _ _ _ _ rfl ?_
         refine AtL.e rfl (EffX.call (f := 78) (sh := fun h => strings_Builder_WriteString _ _ h _) (H0 := H) rfl Tryz.call78 rfl (hl := fun w m hr hw => lift_strings_Builder_WriteString _ _ w m hr _ hw)) ?_
         rintro _ _ ⟨v_13, h0u19, rfl, rfl, H⟩
         refine AtL.nil ?_
         refine AtE.then_n (AtE.go ?_)
         refine AtC.seq ?_
         refine AtC.block ?_
         refine AtC.loopM (fun (s0u1 : Unit) => []) (fun (s0u1 : Unit) => []) [7, 8, 9] [7, 8, 9] [] [] H (by exact rfl) (by exact rfl) (by exact rfl) (by decide) (by exact rfl) (fun Kp19 s0u1 h0u20 H Q19 HK19 => ?_)
         refine AtC.seq ?_
         refine AtC.seqR ?_
         refine AtL.e rfl (EffX.call (f := 79) (sh := fun h => strings_Builder_Len _ h _) (H0 := H) rfl Tryz.call79 rfl (hl := fun w m hr hw => lift_strings_Builder_Len _ w m hr _ hw)) ?_
         rintro _ _ ⟨v_14, h0u21, rfl, rfl, H⟩
         refine AtL.pures hT 2 _ _ _ _ rfl ?_
         refine AtL.nil ?_
         refine AtE.then_n (AtE.go ?_)
         refine AtC.condB H rfl (fun H => ?_) (fun H => ?_)
         ·
          refine AtC.skip ?_
          refine AtE.then_n (AtE.go ?_)
          refine AtC.block ?_
          refine AtC.seqR ?_
          refine AtL.pures hT 1 _ _ _ _ rfl ?_
          refine AtL.e rfl (EffX.call (f := 79) (sh := fun h => strings_Builder_Len _ h _) (H0 := H) rfl Tryz.call79 rfl (hl := fun w m hr hw => lift_strings_Builder_Len _ w m hr _ hw)) ?_
          rintro _ _ ⟨v_15, h0u22, rfl, rfl, H⟩
          refine AtL.pures hT 1 _ _ _ _ rfl ?_
          refine AtL.e rfl (EffX.call (f := 79) (sh := fun h => strings_Builder_Len _ h _) (H0 := H) rfl Tryz.call79 rfl (hl := fun w m hr hw => lift_strings_Builder_Len _ w m hr _ hw)) ?_
          rintro _ _ ⟨v_16, h0u23, rfl, rfl, H⟩
          refine AtL.pures hT 1 _ _ _ _ rfl ?_
          exact H.elim
         ·
          refine AtC.exit ?_
          refine AtE.then_x ?_
          refine AtE.then_x ?_
          refine AtE.blk_hit ?_
          refine AtE.then_n (AtE.go ?_)
          refine AtC.seqR ?_
          refine AtL.e rfl (EffX.call (f := 80) (sh := fun h => strings_Builder_String _ h _) (H0 := H) rfl Tryz.call80 rfl (hl := fun w m hr hw => lift_strings_Builder_String _ w m hr _ hw)) ?_
          rintro _ _ ⟨v_17, h0u24, rfl, rfl, H⟩
          refine AtL.pures hT 1 _ _ _ _ rfl ?_
          refine AtL.nil ?_
          refine AtE.then_n (AtE.go ?_)
          refine AtC.ret ?_
          exact AtE.retN (rs := [.tmp 4]) rfl (ResAll.cons (ResAt.tmp rfl) ResAll.nil) rfl H
        ·
         refine AtC.seqR ?_
         refine AtL.pures hT 2 _ _ _ _ rfl ?_
         refine AtL.nil ?_
         refine AtE.then_n (AtE.go ?_)
         refine AtC.condB H rfl (fun H => ?_) (fun H => ?_)
         ·
          refine AtC.seqR ?_
          refine AtL.pures hT 2 _ _ _ _ rfl ?_
          obtain ⟨hd17, H⟩ := H
          refine AtL.q rfl (Quiet1.quo rfl rfl rfl hd17) ?_
          refine AtL.pures hT 4 _ _ _ _ rfl ?_
          replace H := H _ rfl
          refine AtL.nil ?_
          refine AtE.then_n (AtE.go ?_)
          refine AtC.seqR ?_
          refine AtL.pures hT 2 _ _ _ _ rfl ?_
          refine AtL.nil ?_
          refine AtE.then_n (AtE.go ?_)
          refine AtC.condB H rfl (fun H => ?_) (fun H => ?_)
          ·
           refine AtC.region ?_
           refine AtL.pures hT 3 _ _ _ _ rfl ?_
           replace H := H _ rfl
           refine AtL.nil ?_
           exact AtE.then_n ((HK17 _ () _ H).pickP (ts := [8, 0, 7]) (is := []) rfl rfl (by decide) rfl)
          ·
           refine AtC.skip ?_
           exact AtE.then_n ((HK17 _ () _ H).pickP (ts := [8, 0, 7]) (is := []) rfl rfl (by decide) rfl)
         ·
          refine AtC.skip ?_
          exact AtE.then_n ((HK17 _ () _ H).pickP (ts := [8, 0, 7]) (is := []) rfl rfl (by decide) rfl)
       ·
        refine AtC.seqR ?_
        refine AtL.pures hT 1 _ _ _ _ rfl ?_
        obtain ⟨hd4, v_1, hc4, H⟩ := H
        refine AtL.q rfl (Quiet1.idxStr hT rfl rfl rfl rfl hd4 hc4) ?_
        refine AtL.nil ?_
        refine AtE.then_n (AtE.go ?_)
        refine AtC.block ?_
        refine AtC.joinSeq (β := Unit) (fun (t0u4 : Bool) (bb_4 : Unit) => [(43, Value.bool t0u4)]) (fun (t0u4 : Bool) (bb_4 : Unit) => []) [0, 7] [] H (by exact rfl) (by exact rfl) (fun t0u4 bb_4 h0u5 H => ?_) (fun J6 H HK6 => ?_)
        ·
         refine AtC.condB H rfl (fun H => ?_) (fun H => ?_)
         ·
          refine AtC.block ?_
          refine AtC.joinSeq (β := Unit) (fun (t0u5 : Bool) (bb_5 : Unit) => [(49, Value.bool t0u5)]) (fun (t0u5 : Bool) (bb_5 : Unit) => []) [0, 7] [] H (by exact rfl) (by exact rfl) (fun t0u5 bb_5 h0u6 H => ?_) (fun J7 H HK7 => ?_)
          ·
           refine AtC.condB H rfl (fun H => ?_) (fun H => ?_)
           ·
            refine AtC.seqR ?_
            refine AtL.pures hT 1 _ _ _ _ rfl ?_
            refine AtL.slStr (hT := hT) H rfl rfl rfl rfl rfl rfl (fun v_3 H => ?_)
            refine AtL.pures hT 1 _ _ _ _ rfl ?_
            refine AtL.nil ?_
            refine AtE.then_n (AtE.go ?_)
            refine AtC.ret ?_
            refine AtE.blk_r ?_
            refine AtE.blk_r ?_
            refine AtE.then_r ?_
            exact AtE.retN (rs := [.tmp 4]) rfl (ResAll.cons (ResAt.tmp rfl) ResAll.nil) rfl H
           ·
            refine AtC.joinSeq (β := Unit) (fun (t0u6 : Bool) (bb_6 : Unit) => [(58, Value.bool t0u6)]) (fun (t0u6 : Bool) (bb_6 : Unit) => []) [0, 7] [] H (by exact rfl) (by exact rfl) (fun t0u6 bb_6 h0u8 H => ?_) (fun J9 H HK9 => ?_)
            ·
             refine AtC.condB H rfl (fun H => ?_) (fun H => ?_)
             ·
              refine AtC.seqR ?_
              refine AtL.pures hT 1 _ _ _ _ rfl ?_
              refine AtL.slStr (hT := hT) H rfl rfl rfl rfl rfl rfl (fun v_5 H => ?_)
              refine AtL.pures hT 1 _ _ _ _ rfl ?_
              refine AtL.nil ?_
              refine AtE.then_n (AtE.go ?_)
              refine AtC.ret ?_
              refine AtE.blk_r ?_
              refine AtE.blk_r ?_
              refine AtE.then_r ?_
              exact AtE.retN (rs := [.tmp 4]) rfl (ResAll.cons (ResAt.tmp rfl) ResAll.nil) rfl H
             ·
              refine AtC.joinSeq (β := Unit) (fun (t0u7 : Bool) (bb_7 : Unit) => [(67, Value.bool t0u7)]) (fun (t0u7 : Bool) (bb_7 : Unit) => []) [0, 7] [] H (by exact rfl) (by exact rfl) (fun t0u7 bb_7 h0u10 H => ?_) (fun J11 H HK11 => ?_)
              ·
               refine AtC.condB H rfl (fun H => ?_) (fun H => ?_)
               ·
                refine AtC.seqR ?_
                refine AtL.pures hT 1 _ _ _ _ rfl ?_
                refine AtL.slStr (hT := hT) H rfl rfl rfl rfl rfl rfl (fun v_7 H => ?_)
                refine AtL.pures hT 1 _ _ _ _ rfl ?_
                refine AtL.nil ?_
                refine AtE.then_n (AtE.go ?_)
                refine AtC.ret ?_
                refine AtE.blk_r ?_
                refine AtE.blk_r ?_
                refine AtE.then_r ?_
                exact AtE.retN (rs := [.tmp 4]) rfl (ResAll.cons (ResAt.tmp rfl) ResAll.nil) rfl H
               ·
                refine AtC.joinSeq (β := Unit) (fun (t0u8 : Bool) (bb_8 : Unit) => [(76, Value.bool t0u8)]) (fun (t0u8 : Bool) (bb_8 : Unit) => []) [0, 7] [] H (by exact rfl) (by exact rfl) (fun t0u8 bb_8 h0u12 H => ?_) (fun J13 H HK13 => ?_)
                ·
                 refine AtC.condB H rfl (fun H => ?_) (fun H => ?_)
                 ·
                  refine AtC.seqR ?_
                  refine AtL.pures hT 1 _ _ _ _ rfl ?_
                  refine AtL.slStr (hT := hT) H rfl rfl rfl rfl rfl rfl (fun v_9 H => ?_)
                  refine AtL.pures hT 1 _ _ _ _ rfl ?_
                  refine AtL.nil ?_
                  refine AtE.then_n (AtE.go ?_)
                  refine AtC.ret ?_
                  refine AtE.blk_r ?_
                  refine AtE.blk_r ?_
                  refine AtE.then_r ?_
                  exact AtE.retN (rs := [.tmp 4]) rfl (ResAll.cons (ResAt.tmp rfl) ResAll.nil) rfl H
                 ·
                  refine AtC.joinSeq (β := Unit) (fun (t0u9 : Bool) (bb_9 : Unit) => [(85, Value.bool t0u9)]) (fun (t0u9 : Bool) (bb_9 : Unit) => []) [0, 7] [] H (by exact rfl) (by exact rfl) (fun t0u9 bb_9 h0u14 H => ?_) (fun J15 H HK15 => ?_)
                  ·
                   refine AtC.condB H rfl (fun H => ?_) (fun H => ?_)
                   ·
                    refine AtC.seqR ?_
                    refine AtL.pures hT 1 _ _ _ _ rfl ?_
                    refine AtL.slStr (hT := hT) H rfl rfl rfl rfl rfl rfl (fun v_11 H => ?_)
                    refine AtL.pures hT 1 _ _ _ _ rfl ?_
                    refine AtL.nil ?_
                    refine AtE.then_n (AtE.go ?_)
                    refine AtC.ret ?_
                    refine AtE.blk_r ?_
                    refine AtE.blk_r ?_
                    refine AtE.then_r ?_
                    exact AtE.retN (rs := [.tmp 4]) rfl (ResAll.cons (ResAt.tmp rfl) ResAll.nil) rfl H
                   ·
                    refine AtC.skip ?_
                    refine AtE.blk_n ?_
                    refine AtE.blk_n ?_
                    exact AtE.then_n ((HK4 _ () _ H).pickP (ts := [0, 7]) (is := []) rfl rfl (by decide) rfl)
                  ·
                   refine AtC.region ?_
                   refine AtL.pures hT 3 _ _ _ _ rfl ?_
                   refine AtL.splitB (t := 88) H rfl (fun H => ?_) (fun H => ?_)
                   ·
                    refine AtL.yes rfl rfl rfl ?_
                    refine AtL.pures hT 1 _ _ _ _ rfl ?_
                    refine AtL.yes rfl rfl rfl ?_
                    refine AtL.e rfl (EffX.call (f := 76) (sh := fun h => strings_HasPrefix _ _ h _) (H0 := H) rfl Tryz.call76 rfl (hl := fun w m hr hw => lift_strings_HasPrefix _ _ w m hr _ hw)) ?_
                    rintro _ _ ⟨v_10, h0u15, rfl, rfl, H⟩
                    refine AtL.pures hT 2 _ _ _ _ rfl ?_
                    refine AtL.nil ?_
                    exact AtE.then_n ((HK15 _ () _ H).pickP (ts := [85, 0, 7]) (is := []) rfl rfl (by decide) rfl)
                   ·
                    refine AtL.noF rfl rfl rfl (by decide) rfl ?_
                    refine AtL.noF rfl rfl rfl (by decide) rfl ?_
                    refine AtL.pures hT 2 _ _ _ _ rfl ?_
                    refine AtL.nil ?_
                    exact AtE.then_n ((HK15 _ () _ H).pickP (ts := [85, 0, 7]) (is := []) rfl rfl (by decide) rfl)
                ·
                 refine AtC.region ?_
                 refine AtL.pures hT 3 _ _ _ _ rfl ?_
                 refine AtL.splitB (t := 79) H rfl (fun H => ?_) (fun H => ?_)
                 ·
                  refine AtL.yes rfl rfl rfl ?_
                  refine AtL.pures hT 1 _ _ _ _ rfl ?_
                  refine AtL.yes rfl rfl rfl ?_
                  refine AtL.e rfl (EffX.call (f := 76) (sh := fun h => strings_HasPrefix _ _ h _) (H0 := H) rfl Tryz.call76 rfl (hl := fun w m hr hw => lift_strings_HasPrefix _ _ w m hr _ hw)) ?_
                  rintro _ _ ⟨v_8, h0u13, rfl, rfl, H⟩
                  refine AtL.pures hT 2 _ _ _ _ rfl ?_
                  refine AtL.nil ?_
                  exact AtE.then_n ((HK13 _ () _ H).pickP (ts := [76, 0, 7]) (is := []) rfl rfl (by decide) rfl)
                 ·
                  refine AtL.noF rfl rfl rfl (by decide) rfl ?_
                  refine AtL.noF rfl rfl rfl (by decide) rfl ?_
                  refine AtL.pures hT 2 _ _ _ _ rfl ?_
                  refine AtL.nil ?_
                  exact AtE.then_n ((HK13 _ () _ H).pickP (ts := [76, 0, 7]) (is := []) rfl rfl (by decide) rfl)
              ·
               refine AtC.region ?_
               refine AtL.pures hT 3 _ _ _ _ rfl ?_
               refine AtL.splitB (t := 70) H rfl (fun H => ?_) (fun H => ?_)
               ·
                refine AtL.yes rfl rfl rfl ?_
                refine AtL.pures hT 1 _ _ _ _ rfl ?_
                refine AtL.yes rfl rfl rfl ?_
                refine AtL.e rfl (EffX.call (f := 76) (sh := fun h => strings_HasPrefix _ _ h _) (H0 := H) rfl Tryz.call76 rfl (hl := fun w m hr hw => lift_strings_HasPrefix _ _ w m hr _ hw)) ?_
                rintro _ _ ⟨v_6, h0u11, rfl, rfl, H⟩
                refine AtL.pures hT 2 _ _ _ _ rfl ?_
                refine AtL.nil ?_
                exact AtE.then_n ((HK11 _ () _ H).pickP (ts := [67, 0, 7]) (is := []) rfl rfl (by decide) rfl)
               ·
                refine AtL.noF rfl rfl rfl (by decide) rfl ?_
                refine AtL.noF rfl rfl rfl (by decide) rfl ?_
                refine AtL.pures hT 2 _ _ _ _ rfl ?_
                refine AtL.nil ?_
                exact AtE.then_n ((HK11 _ () _ H).pickP (ts := [67, 0, 7]) (is := []) rfl rfl (by decide) rfl)
            ·
             refine AtC.region ?_
             refine AtL.pures hT 3 _ _ _ _ rfl ?_
             refine AtL.splitB (t := 61) H rfl (fun H => ?_) (fun H => ?_)
             ·
              refine AtL.yes rfl rfl rfl ?_
              refine AtL.pures hT 1 _ _ _ _ rfl ?_
              refine AtL.yes rfl rfl rfl ?_
              refine AtL.e rfl (EffX.call (f := 76) (sh := fun h => strings_HasPrefix _ _ h _) (H0 := H) rfl Tryz.call76 rfl (hl := fun w m hr hw => lift_strings_HasPrefix _ _ w m hr _ hw)) ?_
              rintro _ _ ⟨v_4, h0u9, rfl, rfl, H⟩
              refine AtL.pures hT 2 _ _ _ _ rfl ?_
              refine AtL.nil ?_
              exact AtE.then_n ((HK9 _ () _ H).pickP (ts := [58, 0, 7]) (is := []) rfl rfl (by decide) rfl)
             ·
              refine AtL.noF rfl rfl rfl (by decide) rfl ?_
              refine AtL.noF rfl rfl rfl (by decide) rfl ?_
              refine AtL.pures hT 2 _ _ _ _ rfl ?_
              refine AtL.nil ?_
              exact AtE.then_n ((HK9 _ () _ H).pickP (ts := [58, 0, 7]) (is := []) rfl rfl (by decide) rfl)
          ·
           refine AtC.region ?_
           refine AtL.pures hT 3 _ _ _ _ rfl ?_
           refine AtL.splitB (t := 52) H rfl (fun H => ?_) (fun H => ?_)
           ·
            refine AtL.yes rfl rfl rfl ?_
            refine AtL.pures hT 1 _ _ _ _ rfl ?_
            refine AtL.yes rfl rfl rfl ?_
            refine AtL.e rfl (EffX.call (f := 76) (sh := fun h => strings_HasPrefix _ _ h _) (H0 := H) rfl Tryz.call76 rfl (hl := fun w m hr hw => lift_strings_HasPrefix _ _ w m hr _ hw)) ?_
            rintro _ _ ⟨v_2, h0u7, rfl, rfl, H⟩
            refine AtL.pures hT 2 _ _ _ _ rfl ?_
            refine AtL.nil ?_
            exact AtE.then_n ((HK7 _ () _ H).pickP (ts := [49, 0, 7]) (is := []) rfl rfl (by decide) rfl)
           ·
            refine AtL.noF rfl rfl rfl (by decide) rfl ?_
            refine AtL.noF rfl rfl rfl (by decide) rfl ?_
            refine AtL.pures hT 2 _ _ _ _ rfl ?_
            refine AtL.nil ?_
            exact AtE.then_n ((HK7 _ () _ H).pickP (ts := [49, 0, 7]) (is := []) rfl rfl (by decide) rfl)
         ·
          refine AtC.skip ?_
          refine AtE.blk_n ?_
          exact AtE.then_n ((HK4 _ () _ H).pickP (ts := [0, 7]) (is := []) rfl rfl (by decide) rfl)
        ·
         refine AtC.seqR ?_
         refine AtL.pures hT 2 _ _ _ _ rfl ?_
         replace H := H _ rfl
         refine AtL.nil ?_
         refine AtE.then_n (AtE.go ?_)
         refine AtC.condB H rfl (fun H => ?_) (fun H => ?_)
         ·
          refine AtC.skip ?_
          exact AtE.then_n ((HK6 _ () _ H).pickP (ts := [43, 0, 7]) (is := []) rfl rfl (by decide) rfl)
         ·
          refine AtC.seqR ?_
          refine AtL.pures hT 2 _ _ _ _ rfl ?_
          replace H := H _ rfl
          refine AtL.nil ?_
          refine AtE.then_n (AtE.go ?_)
          refine AtC.condB H rfl (fun H => ?_) (fun H => ?_)
          ·
           refine AtC.skip ?_
           exact AtE.then_n ((HK6 _ () _ H).pickP (ts := [43, 0, 7]) (is := []) rfl rfl (by decide) rfl)
          ·
           refine AtC.seqR ?_
           refine AtL.pures hT 2 _ _ _ _ rfl ?_
           replace H := H _ rfl
           refine AtL.nil ?_
           refine AtE.then_n (AtE.go ?_)
           refine AtC.condB H rfl (fun H => ?_) (fun H => ?_)
           ·
            refine AtC.skip ?_
            exact AtE.then_n ((HK6 _ () _ H).pickP (ts := [43, 0, 7]) (is := []) rfl rfl (by decide) rfl)
           ·
            refine AtC.seqR ?_
            refine AtL.pures hT 2 _ _ _ _ rfl ?_
            replace H := H _ rfl
            refine AtL.nil ?_
            refine AtE.then_n (AtE.go ?_)
            refine AtC.condB H rfl (fun H => ?_) (fun H => ?_)
            ·
             refine AtC.skip ?_
             exact AtE.then_n ((HK6 _ () _ H).pickP (ts := [43, 0, 7]) (is := []) rfl rfl (by decide) rfl)
            ·
             refine AtC.region ?_
             refine AtL.pures hT 2 _ _ _ _ rfl ?_
             replace H := H _ rfl
             refine AtL.nil ?_
             exact AtE.then_n ((HK6 _ () _ H).pickP (ts := [43, 0, 7]) (is := []) rfl rfl (by decide) rfl)
     ·
      refine AtC.joinSeq (β := Unit) (fun (t0u2 : Bool) (bb_2 : Unit) => [(34, Value.bool t0u2)]) (fun (t0u2 : Bool) (bb_2 : Unit) => []) [0, 6] [] H (by exact rfl) (by exact rfl) (fun t0u2 bb_2 h0u3 H => ?_) (fun J3 H HK3 => ?_)
      ·
       refine AtC.condB H rfl (fun H => ?_) (fun H => ?_)
       ·
        refine AtC.region ?_
        exact H.elim
       ·
        refine AtC.skip ?_
        exact AtE.then_n ((HK2 _ () _ H).pickP (ts := [0, 6]) (is := []) rfl rfl (by decide) rfl)
      ·
       refine AtC.region ?_
       refine AtL.pures hT 3 _ _ _ _ rfl ?_
       refine AtL.splitB (t := 31) H rfl (fun H => ?_) (fun H => ?_)
       ·
        refine AtL.noF rfl rfl rfl (by decide) rfl ?_
        refine AtL.noF rfl rfl rfl (by decide) rfl ?_
        refine AtL.pures hT 1 _ _ _ _ rfl ?_
        refine AtL.nil ?_
        exact AtE.then_n ((HK3 _ () _ H).pickP (ts := [34, 0, 6]) (is := []) rfl rfl (by decide) rfl)
       ·
        refine AtL.yes rfl rfl rfl ?_
        refine AtL.pures hT 1 _ _ _ _ rfl ?_
        refine AtL.yes rfl rfl rfl ?_
        refine AtL.pures hT 1 _ _ _ _ rfl ?_
        refine AtL.pures hT 1 _ _ _ _ rfl ?_
        refine AtL.nil ?_
        exact AtE.then_n ((HK3 _ () _ H).pickP (ts := [34, 0, 6]) (is := []) rfl rfl (by decide) rfl)
    ·
     refine AtC.seqR ?_
     refine AtL.pures hT 2 _ _ _ _ rfl ?_
     refine AtL.nil ?_
     refine AtE.then_n (AtE.go ?_)
     refine AtC.condB H rfl (fun H => ?_) (fun H => ?_)
     ·
      refine AtC.region ?_
      exact H.elim
     ·
      refine AtC.skip ?_
      exact AtE.then_n ((HK1 _ () _ H).pickP (ts := [0, 1]) (is := []) rfl rfl (by decide) rfl)

theorem lift_nat_small (x0 : Sl) (w : World) (m : Heap) (hr : Rel ⟨m, []⟩ w.heap) (S : (Int × Bool) → Heap → Prop) (H : nat_small x0 m S) :
    Calls Tryz.prog 72 #[Sl.toV x0] w (Post ⟨w, m⟩ (fun r => Value.tuple #[(Value.int .u64) r.1, Value.bool r.2]) S) := by
  refine Calls.lift (args := [Sl.toV x0]) Tryz.func72 rfl Tryz.ntmps72 (Nat.le_of_ble_eq_true rfl) hr (nat_small x0 m S) H (fun H => ?_)
  refine AtC.pick (ts := [0]) rfl ?_
  unfold nat_small at H
  refine AtC.seqR ?_
  refine AtL.pures hT 2 _ _ _ _ rfl ?_
  refine AtL.nil ?_
  refine AtE.then_n (AtE.go ?_)
  refine AtC.seqR ?_
  refine AtL.pures hT 1 _ _ _ _ rfl ?_
  refine AtL.e rfl (EffX.call (f := 67) (sh := fun h => nat_trim _ h _) (H0 := H) rfl Tryz.call67 rfl (hl := fun w m hr hw => lift_nat_trim _ w m hr _ hw)) ?_
  rintro _ _ ⟨v, h0, rfl, rfl, H⟩
  refine AtL.pures hT 1 _ _ _ _ rfl ?_
  refine AtL.nil ?_
  refine AtE.then_n (AtE.go ?_)
  refine AtC.seq ?_
  refine AtC.seqR ?_
  refine AtL.pures hT 4 _ _ _ _ rfl ?_
  replace H := H _ rfl
  refine AtL.nil ?_
  refine AtE.then_n (AtE.go ?_)
  refine AtC.block ?_
  refine AtC.loopM (fun (s0 : Int × Int) => [(2, Value.int .u64 s0.1), (4, Value.int .i64 s0.2)]) (fun (s0 : Int × Int) => []) [0] [2, 4, 0] [] [] H (by exact rfl) (by exact rfl) (by exact rfl) (by decide) (by exact rfl) (fun Kp1 s0 h0u1 H Q1 HK1 => ?_)
  refine AtC.seq ?_
  refine AtC.seqR ?_
  refine AtL.pures hT 2 _ _ _ _ rfl ?_
  refine AtL.nil ?_
  refine AtE.then_n (AtE.go ?_)
  refine AtC.condB H rfl (fun H => ?_) (fun H => ?_)
  ·
   refine AtC.skip ?_
   refine AtE.then_n (AtE.go ?_)
   refine AtC.seq ?_
   refine AtC.block ?_
   refine AtC.region ?_
   refine AtL.pures hT 4 _ _ _ _ rfl ?_
   obtain ⟨a_, hc1, hd1, H⟩ := H
   refine AtL.q rfl (Quiet1.idxS (s := _) hT rfl rfl rfl rfl rfl hc1 hd1) ?_
   obtain ⟨v_1, hc2, H⟩ := H
   refine AtL.q rfl (Quiet1.load hT rfl rfl rfl hc2) ?_
   refine AtL.pures hT 3 _ _ _ _ rfl ?_
   replace H := H _ rfl
   refine AtL.nil ?_
   refine AtE.blk_n ?_
   refine AtE.then_n (AtE.go ?_)
   refine AtC.region ?_
   refine AtL.pures hT 3 _ _ _ _ rfl ?_
   replace H := H _ rfl
   refine AtL.nil ?_
   exact AtE.then_n ((HK1 _ _ H).pickP (ts := [2, 4, 0]) (is := []) rfl rfl (by decide) rfl)
  ·
   refine AtC.exit ?_
   refine AtE.then_x ?_
   refine AtE.then_x ?_
   refine AtE.blk_hit ?_
   refine AtE.then_n (AtE.go ?_)
   refine AtC.seqR ?_
   refine AtL.pures hT 6 _ _ _ _ rfl ?_
   replace H := H _ rfl
   refine AtL.nil ?_
   refine AtE.then_n (AtE.go ?_)
   refine AtC.ret ?_
   exact AtE.retN (rs := [.tmp 2, .tmp 3]) rfl (ResAll.cons (ResAt.tmp rfl) (ResAll.cons (ResAt.tmp rfl) ResAll.nil)) rfl H

theorem lift_nat_Of (n : Int) (w : World) (m : Heap) (hr : Rel ⟨m, []⟩ w.heap) (S : Sl → Heap → Prop) (H : nat_Of n m S) :
    Calls Tryz.prog 86 #[Value.int .u64 n] w (Post ⟨w, m⟩ Sl.toV S) := by
  refine Calls.lift (args := [Value.int .u64 n]) Tryz.func86 rfl Tryz.ntmps86 (Nat.le_of_ble_eq_true rfl) hr (nat_Of n m S) H (fun H => ?_)
  refine AtC.pick (ts := [0]) rfl ?_
  unfold nat_Of at H
  refine AtC.seqR ?_
  refine AtL.pures hT 1 _ _ _ _ rfl ?_
  refine AtL.nil ?_
  refine AtE.then_n (AtE.go ?_)
  refine AtC.seqR ?_
  refine AtL.pures hT 5 _ _ _ _ rfl ?_
  refine AtLX.bs (hT := hT) (cs := [_, _]) H rfl rfl rfl rfl rfl rfl rfl rfl rfl (fun a h0 H => ?_)
  refine AtL.e rfl (EffX.call (f := 67) (sh := fun h => nat_trim _ h _) (H0 := H) rfl Tryz.call67 rfl (hl := fun w m hr hw => lift_nat_trim _ w m hr _ hw)) ?_
  rintro _ _ ⟨v_1, h0u1, rfl, rfl, H⟩
  refine AtL.pures hT 1 _ _ _ _ rfl ?_
  refine AtL.nil ?_
  refine AtE.then_n (AtE.go ?_)
  refine AtC.ret ?_
  exact AtE.retN (rs := [.tmp 2]) rfl (ResAll.cons (ResAt.tmp rfl) ResAll.nil) rfl H

theorem lift_math_bits_TrailingZeros32 (x0 : Int) (w : World) (m : Heap) (hr : Rel ⟨m, []⟩ w.heap) (S : Int → Heap → Prop) (H : math_bits_TrailingZeros32 x0 m S) :
    Calls Tryz.prog 102 #[Value.int .u32 x0] w (Post ⟨w, m⟩ (Value.int .i64) S) := by
  refine Calls.lift (args := [Value.int .u32 x0]) Tryz.func102 rfl Tryz.ntmps102 (Nat.le_of_ble_eq_true rfl) hr (math_bits_TrailingZeros32 x0 m S) H (fun H => ?_)
  refine AtC.pick (ts := [0]) rfl ?_
  unfold math_bits_TrailingZeros32 at H
  refine AtC.seqR ?_
  refine AtL.pures hT 1 _ _ _ _ rfl ?_
  refine AtL.nil ?_
  refine AtE.then_n (AtE.go ?_)
  refine AtC.seq ?_
  refine AtC.seqR ?_
  refine AtL.pures hT 2 _ _ _ _ rfl ?_
  refine AtL.nil ?_
  refine AtE.then_n (AtE.go ?_)
  refine AtC.condB H rfl (fun H => ?_) (fun H => ?_)
  ·
   refine AtC.seqR ?_
   refine AtL.pures hT 1 _ _ _ _ rfl ?_
   refine AtL.nil ?_
   refine AtE.then_n (AtE.go ?_)
   refine AtC.ret ?_
   refine AtE.then_r ?_
   exact AtE.retN (rs := [.tmp 2]) rfl (ResAll.cons (ResAt.tmp rfl) ResAll.nil) rfl H
  ·
   refine AtC.skip ?_
   refine AtE.then_n (AtE.go ?_)
   refine AtC.seqR ?_
   refine AtL.pures hT 6 _ _ _ _ rfl ?_
   obtain ⟨hd0, H⟩ := H
   refine AtL.q rfl (Quiet1.idxA hT rfl rfl rfl rfl rfl hd0) ?_
   obtain ⟨v, hc1, H⟩ := H
   refine AtL.q rfl (Quiet1.load hT rfl rfl rfl hc1) ?_
   refine AtL.pures hT 2 _ _ _ _ rfl ?_
   refine AtL.nil ?_
   refine AtE.then_n (AtE.go ?_)
   refine AtC.ret ?_
   exact AtE.retN (rs := [.tmp 2]) rfl (ResAll.cons (ResAt.tmp rfl) ResAll.nil) rfl H

theorem lift_nat_halve (x0 : Sl) (w : World) (m : Heap) (hr : Rel ⟨m, []⟩ w.heap) (S : (Sl × Int) → Heap → Prop) (H : nat_halve x0 m S) :
    Calls Tryz.prog 94 #[Sl.toV x0] w (Post ⟨w, m⟩ (fun r => Value.tuple #[Sl.toV r.1, (Value.int .i64) r.2]) S) := by
  refine Calls.lift (args := [Sl.toV x0]) Tryz.func94 rfl Tryz.ntmps94 (Nat.le_of_ble_eq_true rfl) hr (nat_halve x0 m S) H (fun H => ?_)
  refine AtC.pick (ts := [0]) rfl ?_
  unfold nat_halve at H
  refine AtC.seqR ?_
  refine AtL.pures hT 2 _ _ _ _ rfl ?_
  refine AtL.nil ?_
  refine AtE.then_n (AtE.go ?_)
  refine AtC.seqR ?_
  refine AtL.pures hT 1 _ _ _ _ rfl ?_
  refine AtL.nil ?_
  refine AtE.then_n (AtE.go ?_)
  refine AtC.seq ?_
  refine AtC.block ?_
  refine AtC.loopM (fun (s0 : Int) => [(4, Value.int .i64 s0)]) (fun (s0 : Int) => []) [0] [4, 0] [] [] H (by exact rfl) (by exact rfl) (by exact rfl) (by decide) (by exact rfl) (fun Kp1 s0 h0 H Q1 HK1 => ?_)
  refine AtC.seq ?_
  refine AtC.seqR ?_
  refine AtL.pures hT 3 _ _ _ _ rfl ?_
  obtain ⟨a_, hc1, hd1, H⟩ := H
  refine AtL.q rfl (Quiet1.idxS (s := _) hT rfl rfl rfl rfl rfl hc1 hd1) ?_
  obtain ⟨v, hc2, H⟩ := H
  refine AtL.q rfl (Quiet1.load hT rfl rfl rfl hc2) ?_
  refine AtL.pures hT 1 _ _ _ _ rfl ?_
  refine AtL.nil ?_
  refine AtE.then_n (AtE.go ?_)
  refine AtC.condB H rfl (fun H => ?_) (fun H => ?_)
  ·
   refine AtC.skip ?_
   refine AtE.then_n (AtE.go ?_)
   refine AtC.block ?_
   refine AtC.region ?_
   refine AtL.pures hT 3 _ _ _ _ rfl ?_
   replace H := H _ rfl
   refine AtL.nil ?_
   refine AtE.blk_n ?_
   exact AtE.then_n ((HK1 _ _ H).pickP (ts := [4, 0]) (is := []) rfl rfl (by decide) rfl)
  ·
   refine AtC.exit ?_
   refine AtE.then_x ?_
   refine AtE.then_x ?_
   refine AtE.blk_hit ?_
   refine AtE.then_n (AtE.go ?_)
   refine AtC.seqR ?_
   refine AtL.pures hT 4 _ _ _ _ rfl ?_
   obtain ⟨a_1_, hc3, hd3, H⟩ := H
   refine AtL.q rfl (Quiet1.idxS (s := _) hT rfl rfl rfl rfl rfl hc3 hd3) ?_
   obtain ⟨v_1, hc4, H⟩ := H
   refine AtL.q rfl (Quiet1.load hT rfl rfl rfl hc4) ?_
   refine AtL.e rfl (EffX.call (f := 102) (sh := fun h => math_bits_TrailingZeros32 _ h _) (H0 := H) rfl Tryz.call102 rfl (hl := fun w m hr hw => lift_math_bits_TrailingZeros32 _ w m hr _ hw)) ?_
   rintro _ _ ⟨v_2, h0u1, rfl, rfl, H⟩
   refine AtL.pures hT 2 _ _ _ _ rfl ?_
   replace H := H _ rfl
   refine AtL.nil ?_
   refine AtE.then_n (AtE.go ?_)
   refine AtC.seqR ?_
   refine AtL.pures hT 3 _ _ _ _ rfl ?_
   refine AtL.sl (hT := hT) H rfl rfl rfl rfl rfl rfl rfl (fun h => by cases h <;> rfl) rfl (fun v_3 H => ?_)
   refine AtL.e rfl (EffX.call (f := 50) (sh := fun h => slices_Clone_api_Nat_uint32 _ h _) (H0 := H) rfl Tryz.call50 rfl (hl := fun w m hr hw => lift_slices_Clone_api_Nat_uint32 _ w m hr _ hw)) ?_
   rintro _ _ ⟨v_4, h0u2, rfl, rfl, H⟩
   refine AtL.pures hT 1 _ _ _ _ rfl ?_
   refine AtL.nil ?_
   refine AtE.then_n (AtE.go ?_)
   refine AtC.joinSeq (β := Unit) (fun (t0 : Unit) (bb : Unit) => []) (fun (t0 : Unit) (bb : Unit) => []) [4, 5] [] H (by exact rfl) (by exact rfl) (fun t0 bb h0u3 H => ?_) (fun J7 H HK7 => ?_)
   ·
    refine AtC.seqR ?_
    refine AtL.pures hT 1 _ _ _ _ rfl ?_
    refine AtL.e rfl (EffX.call (f := 67) (sh := fun h => nat_trim _ h _) (H0 := H) rfl Tryz.call67 rfl (hl := fun w m hr hw => lift_nat_trim _ w m hr _ hw)) ?_
    rintro _ _ ⟨v_8, h0u8, rfl, rfl, H⟩
    refine AtL.pures hT 3 _ _ _ _ rfl ?_
    refine AtL.nil ?_
    refine AtE.then_n (AtE.go ?_)
    refine AtC.ret ?_
    exact AtE.retN (rs := [.tmp 2, .tmp 3]) rfl (ResAll.cons (ResAt.tmp rfl) (ResAll.cons (ResAt.tmp rfl) ResAll.nil)) rfl H
   ·
    refine AtC.seqR ?_
    refine AtL.pures hT 3 _ _ _ _ rfl ?_
    replace H := H _ rfl
    refine AtL.nil ?_
    refine AtE.then_n (AtE.go ?_)
    refine AtC.seqR ?_
    refine AtL.pures hT 2 _ _ _ _ rfl ?_
    refine AtL.nil ?_
    refine AtE.then_n (AtE.go ?_)
    refine AtC.condB H rfl (fun H => ?_) (fun H => ?_)
    ·
     refine AtC.seqR ?_
     refine AtL.pures hT 3 _ _ _ _ rfl ?_
     refine AtL.nil ?_
     refine AtE.then_n (AtE.go ?_)
     refine AtC.block ?_
     refine AtC.loopM (fun (s0u2 : Int) => [(35, Value.int .i64 s0u2)]) (fun (s0u2 : Int) => []) [4, 5, 6, 34] [35, 4, 5, 6, 34] [] [] H (by exact rfl) (by exact rfl) (by exact rfl) (by decide) (by exact rfl) (fun Kp8 s0u2 h0u4 H Q8 HK8 => ?_)
     refine AtC.seqR ?_
     refine AtL.pures hT 1 _ _ _ _ rfl ?_
     refine AtL.nil ?_
     refine AtE.then_n (AtE.go ?_)
     refine AtC.seq ?_
     refine AtC.condB H rfl (fun H => ?_) (fun H => ?_)
     ·
      refine AtC.skip ?_
      refine AtE.then_n (AtE.go ?_)
      refine AtC.joinSeq (β := Unit) (fun (t0u1 : Unit) (bb_1 : Unit) => []) (fun (t0u1 : Unit) (bb_1 : Unit) => []) [4, 5, 6, 34, 35] [] H (by exact rfl) (by exact rfl) (fun t0u1 bb_1 h0u5 H => ?_) (fun J9 H HK9 => ?_)
      ·
       refine AtC.region ?_
       refine AtL.pures hT 2 _ _ _ _ rfl ?_
       refine AtL.nil ?_
       exact AtE.then_n ((HK8 _ _ H).pickP (ts := [35, 4, 5, 6, 34]) (is := []) rfl rfl (by decide) rfl)
      ·
       refine AtC.block ?_
       refine AtC.seqR ?_
       refine AtL.pures hT 2 _ _ _ _ rfl ?_
       refine AtL.nil ?_
       refine AtE.then_n (AtE.go ?_)
       refine AtC.seqR ?_
       refine AtL.pures hT 2 _ _ _ _ rfl ?_
       obtain ⟨a_2_, hc9, hd9, H⟩ := H
       refine AtL.q rfl (Quiet1.idxS (s := _) hT rfl rfl rfl rfl rfl hc9 hd9) ?_
       obtain ⟨v_5, hc10, H⟩ := H
       refine AtL.q rfl (Quiet1.load hT rfl rfl rfl hc10) ?_
       refine AtL.pures hT 1 _ _ _ _ rfl ?_
       obtain ⟨hd11, H⟩ := H
       refine AtL.q rfl (Quiet1.shr rfl rfl rfl hd11) ?_
       obtain ⟨a_3_, hc12, hd12, H⟩ := H
       refine AtL.q rfl (Quiet1.idxS (s := _) hT rfl rfl rfl rfl rfl hc12 hd12) ?_
       refine AtL.e rfl (EffX.store hT rfl rfl rfl rfl rfl H) ?_
       rintro _ _ ⟨h0u6, rfl, H⟩
       refine AtL.nil ?_
       refine AtE.then_n (AtE.go ?_)
       refine AtC.seqR ?_
       refine AtL.pures hT 5 _ _ _ _ rfl ?_
       refine AtL.nil ?_
       refine AtE.then_n (AtE.go ?_)
       refine AtC.condB H rfl (fun H => ?_) (fun H => ?_)
       ·
        obtain ⟨a_4_, hc13, hd13, H⟩ := H
        obtain ⟨v_6, hc14, H⟩ := H
        obtain ⟨a_5_, hc15, hd15, H⟩ := H
        obtain ⟨v_7, hc16, H⟩ := H
        obtain ⟨hd17, H⟩ := H
        obtain ⟨a_6_, hc18, hd18, H⟩ := H
        apply AtC.stages [14] [[], [], [], [], [], [], [], [], [], [], [], [], [], [], []] [[], [], [0, 1], [0, 1, 2], [], [], [5], [4, 5, 6], [4, 5, 6, 7], [], [9], [4, 5, 6, 7, 8, 9, 10], [0, 1, 2, 3, 4, 5, 6, 7, 8, 9, 10, 11], [0, 1, 2, 3, 4, 5, 6, 7, 8, 9, 10, 11, 12], [0, 1, 2, 3, 4, 5, 6, 7, 8, 9, 10, 11, 12, 13]] hmix (by kernel_rfl) [(50, _), (51, _), (52, _), (53, _), (54, _), (55, _), (56, _), (57, _), (58, _), (59, _), (60, _), (61, _), (62, _), (63, _)] rfl 1 rfl
        refine Stg.go [0, 1, 2, 3, 4, 5, 6, 7, 8, 9, 10, 11, 12, 13] [14] rfl rfl (QAll.cons (QOp.p hT rfl rfl rfl rfl rfl) (QAll.cons (QOp.p hT rfl rfl rfl rfl rfl) (QAll.cons (QOp.q rfl rfl (Quiet1.idxS (s := _) hT rfl rfl rfl rfl rfl hc13 hd13) rfl rfl) (QAll.cons (QOp.q rfl rfl (Quiet1.load hT rfl rfl rfl hc14) rfl rfl) (QAll.cons (QOp.p hT rfl rfl rfl rfl rfl) (QAll.cons (QOp.p hT rfl rfl rfl rfl rfl) (QAll.cons (QOp.p hT rfl rfl rfl rfl rfl) (QAll.cons (QOp.q rfl rfl (Quiet1.idxS (s := _) hT rfl rfl rfl rfl rfl hc15 hd15) rfl rfl) (QAll.cons (QOp.q rfl rfl (Quiet1.load hT rfl rfl rfl hc16) rfl rfl) (QAll.cons (QOp.p hT rfl rfl rfl rfl rfl) (QAll.cons (QOp.p hT rfl rfl rfl rfl rfl) (QAll.cons (QOp.q rfl rfl (Quiet1.shl rfl rfl rfl hd17) rfl rfl) (QAll.cons (QOp.p hT rfl rfl rfl rfl rfl) (QAll.cons (QOp.q rfl rfl (Quiet1.idxS (s := _) hT rfl rfl rfl rfl rfl hc18 hd18) rfl rfl) QAll.nil)))))))))))))) ?_
        refine EAll.cons ?_ EAll.nil
        refine EOp.e rfl rfl rfl (EffX.store hT rfl rfl rfl rfl rfl H) ?_
        rintro _ _ ⟨h0u7, rfl, H⟩
        apply Stg.next [] rfl rfl
        refine Stg.fin [] rfl rfl QAll.nil ?_
        refine AtE.blk_n ?_
        exact AtE.then_n ((HK9 _ () _ H).pickP (ts := [4, 5, 6, 34, 35]) (is := []) rfl rfl (by decide) rfl)
       ·
        refine AtC.skip ?_
        refine AtE.blk_n ?_
        exact AtE.then_n ((HK9 _ () _ H).pickP (ts := [4, 5, 6, 34, 35]) (is := []) rfl rfl (by decide) rfl)
     ·
      refine AtC.exit ?_
      refine AtE.then_x ?_
      refine AtE.then_x ?_
      refine AtE.blk_hit ?_
      exact AtE.then_n ((HK7 _ () _ H).pickP (ts := [4, 5]) (is := []) rfl rfl (by decide) rfl)
    ·
     refine AtC.skip ?_
     exact AtE.then_n ((HK7 _ () _ H).pickP (ts := [4, 5]) (is := []) rfl rfl (by decide) rfl)

theorem lift_nat_sign (n : Int) (w : World) (m : Heap) (hr : Rel ⟨m, []⟩ w.heap) (S : Int → Heap → Prop) (H : nat_sign n m S) :
    Calls Tryz.prog 82 #[Value.int .i64 n] w (Post ⟨w, m⟩ (Value.int .i64) S) := by
  refine Calls.lift (args := [Value.int .i64 n]) Tryz.func82 rfl Tryz.ntmps82 (Nat.le_of_ble_eq_true rfl) hr (nat_sign n m S) H (fun H => ?_)
  refine AtC.pick (ts := [0]) rfl ?_
  unfold nat_sign at H
  refine AtC.seqR ?_
  refine AtL.pures hT 1 _ _ _ _ rfl ?_
  refine AtL.nil ?_
  refine AtE.then_n (AtE.go ?_)
  refine AtC.seqR ?_
  refine AtL.pures hT 4 _ _ _ _ rfl ?_
  refine AtL.nil ?_
  refine AtE.then_n (AtE.go ?_)
  refine AtC.ret ?_
  exact AtE.retN (rs := [.tmp 2]) rfl (ResAll.cons (ResAt.tmp rfl) ResAll.nil) rfl H

theorem lift_nat_Cmp (x0 : Sl) (y : Sl) (w : World) (m : Heap) (hr : Rel ⟨m, []⟩ w.heap) (S : Int → Heap → Prop) (H : nat_Cmp x0 y m S) :
    Calls Tryz.prog 59 #[Sl.toV x0, Sl.toV y] w (Post ⟨w, m⟩ (Value.int .i64) S) := by
  refine Calls.lift (args := [Sl.toV x0, Sl.toV y]) Tryz.func59 rfl Tryz.ntmps59 (Nat.le_of_ble_eq_true rfl) hr (nat_Cmp x0 y m S) H (fun H => ?_)
  refine AtC.pick (ts := [0, 1]) rfl ?_
  unfold nat_Cmp at H
  refine AtC.seqR ?_
  refine AtL.pures hT 1 _ _ _ _ rfl ?_
  refine AtL.nil ?_
  refine AtE.then_n (AtE.go ?_)
  refine AtC.seqR ?_
  refine AtL.pures hT 1 _ _ _ _ rfl ?_
  refine AtL.e rfl (EffX.call (f := 67) (sh := fun h => nat_trim _ h _) (H0 := H) rfl Tryz.call67 rfl (hl := fun w m hr hw => lift_nat_trim _ w m hr _ hw)) ?_
  rintro _ _ ⟨v, h0, rfl, rfl, H⟩
  refine AtL.pures hT 1 _ _ _ _ rfl ?_
  refine AtL.e rfl (EffX.call (f := 67) (sh := fun h => nat_trim _ h _) (H0 := H) rfl Tryz.call67 rfl (hl := fun w m hr hw => lift_nat_trim _ w m hr _ hw)) ?_
  rintro _ _ ⟨v_1, h0u1, rfl, rfl, H⟩
  refine AtL.pures hT 2 _ _ _ _ rfl ?_
  refine AtL.nil ?_
  refine AtE.then_n (AtE.go ?_)
  refine AtC.seq ?_
  refine AtC.seqR ?_
  refine AtL.pures hT 5 _ _ _ _ rfl ?_
  refine AtL.nil ?_
  refine AtE.then_n (AtE.go ?_)
  refine AtC.condB H rfl (fun H => ?_) (fun H => ?_)
  ·
   refine AtC.seqR ?_
   refine AtL.pures hT 5 _ _ _ _ rfl ?_
   refine AtL.e rfl (EffX.call (f := 82) (sh := fun h => nat_sign _ h _) (H0 := H) rfl Tryz.call82 rfl (hl := fun w m hr hw => lift_nat_sign _ w m hr _ hw)) ?_
   rintro _ _ ⟨v_2, h0u2, rfl, rfl, H⟩
   refine AtL.pures hT 1 _ _ _ _ rfl ?_
   refine AtL.nil ?_
   refine AtE.then_n (AtE.go ?_)
   refine AtC.ret ?_
   refine AtE.then_r ?_
   exact AtE.retN (rs := [.tmp 4]) rfl (ResAll.cons (ResAt.tmp rfl) ResAll.nil) rfl H
  ·
   refine AtC.skip ?_
   refine AtE.then_n (AtE.go ?_)
   refine AtC.seq ?_
   refine AtC.seqR ?_
   refine AtL.pures hT 4 _ _ _ _ rfl ?_
   replace H := H _ rfl
   refine AtL.nil ?_
   refine AtE.then_n (AtE.go ?_)
   refine AtC.block ?_
   refine AtC.loopM (fun (s0 : Int) => [(5, Value.int .i64 s0)]) (fun (s0 : Int) => []) [0, 1] [5, 0, 1] [] [] H (by exact rfl) (by exact rfl) (by exact rfl) (by decide) (by exact rfl) (fun Kp1 s0 h0u3 H Q1 HK1 => ?_)
   refine AtC.seq ?_
   refine AtC.seqR ?_
   refine AtL.pures hT 2 _ _ _ _ rfl ?_
   refine AtL.nil ?_
   refine AtE.then_n (AtE.go ?_)
   refine AtC.condB H rfl (fun H => ?_) (fun H => ?_)
   ·
    refine AtC.skip ?_
    refine AtE.then_n (AtE.go ?_)
    refine AtC.seq ?_
    refine AtC.block ?_
    refine AtC.seqD hmix (by kernel_rfl) ?_
    refine AtD.pures hT 2 _ _ _ _ rfl ?_
    obtain ⟨a_, hc1, hd1, H⟩ := H
    refine AtD.q rfl (Quiet1.idxS (s := _) hT rfl rfl rfl rfl rfl hc1 hd1) ?_
    obtain ⟨v_3, hc2, H⟩ := H
    refine AtD.q rfl (Quiet1.load hT rfl rfl rfl hc2) ?_
    refine AtD.pures hT 2 _ _ _ _ rfl ?_
    obtain ⟨a_1_, hc3, hd3, H⟩ := H
    refine AtD.q rfl (Quiet1.idxS (s := _) hT rfl rfl rfl rfl rfl hc3 hd3) ?_
    obtain ⟨v_4, hc4, H⟩ := H
    refine AtD.q rfl (Quiet1.load hT rfl rfl rfl hc4) ?_
    refine AtD.pures hT 1 _ _ _ _ rfl ?_
    refine AtD.nil ?_
    refine AtE.then_n (AtE.go ?_)
    refine AtC.condB H rfl (fun H => ?_) (fun H => ?_)
    ·
     obtain ⟨a_2_, hc5, hd5, H⟩ := H
     obtain ⟨v_5, hc6, H⟩ := H
     obtain ⟨a_3_, hc7, hd7, H⟩ := H
     obtain ⟨v_6, hc8, H⟩ := H
     apply AtC.seqS [11] [[], [], [], [], [], [], [], [], [], [], [], [], [11]] [[], [], [0, 1], [0, 1, 2], [0, 1, 2, 3], [], [], [5, 6], [5, 6, 7], [5, 6, 7, 8], [0, 1, 2, 3, 4, 5, 6, 7, 8, 9], [0, 1, 2, 3, 4, 5, 6, 7, 8, 9, 10], [0, 1, 2, 3, 4, 5, 6, 7, 8, 9, 10, 11]] hmix (by kernel_rfl) [(37, _), (38, _), (39, _), (40, _), (41, _), (42, _), (43, _), (44, _), (45, _), (46, _), (47, _)] rfl 1 rfl
     refine Stg.go [0, 1, 2, 3, 4, 5, 6, 7, 8, 9, 10] [11] rfl rfl (QAll.cons (QOp.p hT rfl rfl rfl rfl rfl) (QAll.cons (QOp.p hT rfl rfl rfl rfl rfl) (QAll.cons (QOp.q rfl rfl (Quiet1.idxS (s := _) hT rfl rfl rfl rfl rfl hc5 hd5) rfl rfl) (QAll.cons (QOp.q rfl rfl (Quiet1.load hT rfl rfl rfl hc6) rfl rfl) (QAll.cons (QOp.p hT rfl rfl rfl rfl rfl) (QAll.cons (QOp.p hT rfl rfl rfl rfl rfl) (QAll.cons (QOp.p hT rfl rfl rfl rfl rfl) (QAll.cons (QOp.q rfl rfl (Quiet1.idxS (s := _) hT rfl rfl rfl rfl rfl hc7 hd7) rfl rfl) (QAll.cons (QOp.q rfl rfl (Quiet1.load hT rfl rfl rfl hc8) rfl rfl) (QAll.cons (QOp.p hT rfl rfl rfl rfl rfl) (QAll.cons (QOp.p hT rfl rfl rfl rfl rfl) QAll.nil))))))))))) ?_
     refine EAll.cons ?_ EAll.nil
     refine EOp.e rfl rfl rfl (EffX.call (f := 82) (sh := fun h => nat_sign _ h _) (H0 := H) rfl Tryz.call82 rfl (hl := fun w m hr hw => lift_nat_sign _ w m hr _ hw)) ?_
     rintro _ _ ⟨v_7, h0u4, rfl, rfl, H⟩
     apply Stg.next [(48, _), (4, _)] rfl rfl
     refine Stg.fin [12] rfl rfl (QAll.cons (QOp.p hT rfl rfl rfl rfl rfl) QAll.nil) ?_
     refine AtE.then_n (AtE.go ?_)
     refine AtC.ret ?_
     refine AtE.blk_r ?_
     refine AtE.then_r ?_
     refine AtE.then_r ?_
     refine AtE.blk_r ?_
     refine AtE.then_r ?_
     exact AtE.retN (rs := [.tmp 4]) rfl (ResAll.cons (ResAt.tmp rfl) ResAll.nil) rfl H
    ·
     refine AtC.skip ?_
     refine AtE.blk_n ?_
     refine AtE.then_n (AtE.go ?_)
     refine AtC.region ?_
     refine AtL.pures hT 3 _ _ _ _ rfl ?_
     replace H := H _ rfl
     refine AtL.nil ?_
     exact AtE.then_n ((HK1 _ _ H).pickP (ts := [5, 0, 1]) (is := []) rfl rfl (by decide) rfl)
   ·
    refine AtC.exit ?_
    refine AtE.then_x ?_
    refine AtE.then_x ?_
    refine AtE.blk_hit ?_
    refine AtE.then_n (AtE.go ?_)
    refine AtC.seqR ?_
    refine AtL.pures hT 1 _ _ _ _ rfl ?_
    refine AtL.nil ?_
    refine AtE.then_n (AtE.go ?_)
    refine AtC.ret ?_
    exact AtE.retN (rs := [.tmp 4]) rfl (ResAll.cons (ResAt.tmp rfl) ResAll.nil) rfl H

theorem lift_nat_minus (x0 : Sl) (y : Sl) (w : World) (m : Heap) (hr : Rel ⟨m, []⟩ w.heap) (S : Sl → Heap → Prop) (H : nat_minus x0 y m S) :
    Calls Tryz.prog 83 #[Sl.toV x0, Sl.toV y] w (Post ⟨w, m⟩ Sl.toV S) := by
  refine Calls.lift (args := [Sl.toV x0, Sl.toV y]) Tryz.func83 rfl Tryz.ntmps83 (Nat.le_of_ble_eq_true rfl) hr (nat_minus x0 y m S) H (fun H => ?_)
  refine AtC.pick (ts := [0, 1]) rfl ?_
  unfold nat_minus at H
  refine AtC.seqR ?_
  refine AtL.pures hT 1 _ _ _ _ rfl ?_
  refine AtL.nil ?_
  refine AtE.then_n (AtE.go ?_)
  refine AtC.seqR ?_
  refine AtL.pures hT 1 _ _ _ _ rfl ?_
  refine AtL.nil ?_
  refine AtE.then_n (AtE.go ?_)
  refine AtC.seq ?_
  refine AtC.seqR ?_
  refine AtL.pures hT 3 _ _ _ _ rfl ?_
  refine AtL.nil ?_
  refine AtE.then_n (AtE.go ?_)
  refine AtC.block ?_
  refine AtC.loopM (fun (s0 : Sl × Int × Int) => [(4, Sl.toV s0.1), (5, Value.int .u64 s0.2.1), (11, Value.int .i64 s0.2.2)]) (fun (s0 : Sl × Int × Int) => []) [1, 9, 10] [4, 5, 11, 1, 9, 10] [] [] H (by exact rfl) (by exact rfl) (by exact rfl) (by decide) (by exact rfl) (fun Kp1 s0 h0 H Q1 HK1 => ?_)
  refine AtC.seqR ?_
  refine AtL.pures hT 1 _ _ _ _ rfl ?_
  refine AtL.nil ?_
  refine AtE.then_n (AtE.go ?_)
  refine AtC.seq ?_
  refine AtC.condB H rfl (fun H => ?_) (fun H => ?_)
  ·
   refine AtC.skip ?_
   refine AtE.then_n (AtE.go ?_)
   refine AtC.seq ?_
   refine AtC.block ?_
   refine AtC.seqR ?_
   refine AtL.pures hT 1 _ _ _ _ rfl ?_
   obtain ⟨a_, hc1, hd1, H⟩ := H
   refine AtL.q rfl (Quiet1.idxS (s := _) hT rfl rfl rfl rfl rfl hc1 hd1) ?_
   obtain ⟨v, hc2, H⟩ := H
   refine AtL.q rfl (Quiet1.load hT rfl rfl rfl hc2) ?_
   refine AtL.pures hT 2 _ _ _ _ rfl ?_
   refine AtL.nil ?_
   refine AtE.then_n (AtE.go ?_)
   refine AtC.seqR ?_
   refine AtL.pures hT 5 _ _ _ _ rfl ?_
   replace H := H _ rfl
   refine AtL.nil ?_
   refine AtE.then_n (AtE.go ?_)
   refine AtC.joinSeq (β := Unit) (fun (t0 : Int) (bb : Unit) => [(8, Value.int .u64 t0)]) (fun (t0 : Int) (bb : Unit) => []) [1, 4, 9, 10, 11] [] H (by exact rfl) (by exact rfl) (fun t0 bb h0u1 H => ?_) (fun J4 H HK4 => ?_)
   ·
    refine AtC.seqR ?_
    refine AtL.pures hT 3 _ _ _ _ rfl ?_
    refine AtLX.bs (hT := hT) (cs := [_]) H rfl rfl rfl rfl rfl rfl rfl rfl rfl (fun a_2 h0u2 H => ?_)
    refine AtL.e rfl (EffX.appendS (s := _) (u := _) hT rfl rfl rfl rfl rfl rfl rfl rfl rfl rfl (by decide) H) ?_
    rintro _ _ ⟨v_3, h0u3, rfl, rfl, H⟩
    refine AtL.pures hT 1 _ _ _ _ rfl ?_
    refine AtL.nil ?_
    refine AtE.then_n (AtE.go ?_)
    refine AtC.region ?_
    refine AtL.pures hT 3 _ _ _ _ rfl ?_
    replace H := H _ rfl
    refine AtL.nil ?_
    refine AtE.blk_n ?_
    refine AtE.then_n (AtE.go ?_)
    refine AtC.region ?_
    refine AtL.pures hT 2 _ _ _ _ rfl ?_
    refine AtL.nil ?_
    exact AtE.then_n ((HK1 _ _ H).pickP (ts := [4, 5, 11, 1, 9, 10]) (is := []) rfl rfl (by decide) rfl)
   ·
    refine AtC.seqR ?_
    refine AtL.pures hT 4 _ _ _ _ rfl ?_
    refine AtL.nil ?_
    refine AtE.then_n (AtE.go ?_)
    refine AtC.condB H rfl (fun H => ?_) (fun H => ?_)
    ·
     refine AtC.region ?_
     refine AtL.pures hT 3 _ _ _ _ rfl ?_
     obtain ⟨a_1_, hc4, hd4, H⟩ := H
     refine AtL.q rfl (Quiet1.idxS (s := _) hT rfl rfl rfl rfl rfl hc4 hd4) ?_
     obtain ⟨v_1, hc5, H⟩ := H
     refine AtL.q rfl (Quiet1.load hT rfl rfl rfl hc5) ?_
     refine AtL.pures hT 3 _ _ _ _ rfl ?_
     replace H := H _ rfl
     refine AtL.nil ?_
     exact AtE.then_n ((HK4 _ () _ H).pickP (ts := [8, 1, 4, 9, 10, 11]) (is := []) rfl rfl (by decide) rfl)
    ·
     refine AtC.skip ?_
     exact AtE.then_n ((HK4 _ () _ H).pickP (ts := [8, 1, 4, 9, 10, 11]) (is := []) rfl rfl (by decide) rfl)
  ·
   refine AtC.exit ?_
   refine AtE.then_x ?_
   refine AtE.then_x ?_
   refine AtE.blk_hit ?_
   refine AtE.then_n (AtE.go ?_)
   refine AtC.seqR ?_
   refine AtL.pures hT 1 _ _ _ _ rfl ?_
   refine AtL.e rfl (EffX.call (f := 67) (sh := fun h => nat_trim _ h _) (H0 := H) rfl Tryz.call67 rfl (hl := fun w m hr hw => lift_nat_trim _ w m hr _ hw)) ?_
   rintro _ _ ⟨v_4, h0u4, rfl, rfl, H⟩
   refine AtL.pures hT 1 _ _ _ _ rfl ?_
   refine AtL.nil ?_
   refine AtE.then_n (AtE.go ?_)
   refine AtC.ret ?_
   exact AtE.retN (rs := [.tmp 4]) rfl (ResAll.cons (ResAt.tmp rfl) ResAll.nil) rfl H

theorem lift_nat_double (x0 : Sl) (k : Int) (w : World) (m : Heap) (hr : Rel ⟨m, []⟩ w.heap) (S : Sl → Heap → Prop) (H : nat_double x0 k m S) :
    Calls Tryz.prog 95 #[Sl.toV x0, Value.int .i64 k] w (Post ⟨w, m⟩ Sl.toV S) := by
  refine Calls.lift (args := [Sl.toV x0, Value.int .i64 k]) Tryz.func95 rfl Tryz.ntmps95 (Nat.le_of_ble_eq_true rfl) hr (nat_double x0 k m S) H (fun H => ?_)
  refine AtC.pick (ts := [0, 1]) rfl ?_
  unfold nat_double at H
  refine AtC.seqR ?_
  refine AtL.pures hT 1 _ _ _ _ rfl ?_
  refine AtL.nil ?_
  refine AtE.then_n (AtE.go ?_)
  refine AtC.seqR ?_
  refine AtL.pures hT 3 _ _ _ _ rfl ?_
  replace H := H _ rfl
  refine AtL.e rfl (EffX.mkS hT rfl rfl rfl rfl rfl rfl rfl rfl (by decide) H) ?_
  rintro _ _ ⟨v, h0, rfl, rfl, H⟩
  refine AtL.pures hT 1 _ _ _ _ rfl ?_
  refine AtL.nil ?_
  refine AtE.then_n (AtE.go ?_)
  refine AtC.seqR ?_
  refine AtL.pures hT 5 _ _ _ _ rfl ?_
  obtain ⟨hd0, H⟩ := H
  refine AtL.q rfl (Quiet1.shl rfl rfl rfl hd0) ?_
  obtain ⟨a_, hc1, hd1, H⟩ := H
  refine AtL.q rfl (Quiet1.idxS (s := _) hT rfl rfl rfl rfl rfl hc1 hd1) ?_
  refine AtL.e rfl (EffX.store hT rfl rfl rfl rfl rfl H) ?_
  rintro _ _ ⟨h0u1, rfl, H⟩
  refine AtL.nil ?_
  refine AtE.then_n (AtE.go ?_)
  refine AtC.seqR ?_
  refine AtL.pures hT 2 _ _ _ _ rfl ?_
  refine AtL.e rfl (EffX.call (f := 66) (sh := fun h => nat_times _ _ h _) (H0 := H) rfl Tryz.call66 rfl (hl := fun w m hr hw => lift_nat_times _ _ w m hr _ hw)) ?_
  rintro _ _ ⟨v_1, h0u2, rfl, rfl, H⟩
  refine AtL.e rfl (EffX.call (f := 67) (sh := fun h => nat_trim _ h _) (H0 := H) rfl Tryz.call67 rfl (hl := fun w m hr hw => lift_nat_trim _ w m hr _ hw)) ?_
  rintro _ _ ⟨v_2, h0u3, rfl, rfl, H⟩
  refine AtL.pures hT 1 _ _ _ _ rfl ?_
  refine AtL.nil ?_
  refine AtE.then_n (AtE.go ?_)
  refine AtC.ret ?_
  exact AtE.retN (rs := [.tmp 4]) rfl (ResAll.cons (ResAt.tmp rfl) ResAll.nil) rfl H

theorem lift_nat_common (x0 : Sl) (y : Sl) (w : World) (m : Heap) (hr : Rel ⟨m, []⟩ w.heap) (S : Sl → Heap → Prop) (H : nat_common x0 y m S) :
    Calls Tryz.prog 84 #[Sl.toV x0, Sl.toV y] w (Post ⟨w, m⟩ Sl.toV S) := by
  refine Calls.lift (args := [Sl.toV x0, Sl.toV y]) Tryz.func84 rfl Tryz.ntmps84 (Nat.le_of_ble_eq_true rfl) hr (nat_common x0 y m S) H (fun H => ?_)
  refine AtC.pick (ts := [0, 1]) rfl ?_
  unfold nat_common at H
  refine AtC.seqR ?_
  refine AtL.pures hT 1 _ _ _ _ rfl ?_
  refine AtL.nil ?_
  refine AtE.then_n (AtE.go ?_)
  refine AtC.seqR ?_
  refine AtL.pures hT 1 _ _ _ _ rfl ?_
  refine AtL.e rfl (EffX.call (f := 67) (sh := fun h => nat_trim _ h _) (H0 := H) rfl Tryz.call67 rfl (hl := fun w m hr hw => lift_nat_trim _ w m hr _ hw)) ?_
  rintro _ _ ⟨v, h0, rfl, rfl, H⟩
  refine AtL.pures hT 1 _ _ _ _ rfl ?_
  refine AtL.e rfl (EffX.call (f := 67) (sh := fun h => nat_trim _ h _) (H0 := H) rfl Tryz.call67 rfl (hl := fun w m hr hw => lift_nat_trim _ w m hr _ hw)) ?_
  rintro _ _ ⟨v_1, h0u1, rfl, rfl, H⟩
  refine AtL.pures hT 2 _ _ _ _ rfl ?_
  refine AtL.nil ?_
  refine AtE.then_n (AtE.go ?_)
  refine AtC.seq ?_
  refine AtC.seqR ?_
  refine AtL.pures hT 3 _ _ _ _ rfl ?_
  refine AtL.nil ?_
  refine AtE.then_n (AtE.go ?_)
  refine AtC.condB H rfl (fun H => ?_) (fun H => ?_)
  ·
   refine AtC.seqR ?_
   refine AtL.pures hT 2 _ _ _ _ rfl ?_
   refine AtL.nil ?_
   refine AtE.then_n (AtE.go ?_)
   refine AtC.ret ?_
   refine AtE.then_r ?_
   exact AtE.retN (rs := [.tmp 4]) rfl (ResAll.cons (ResAt.tmp rfl) ResAll.nil) rfl H
  ·
   refine AtC.skip ?_
   refine AtE.then_n (AtE.go ?_)
   refine AtC.seq ?_
   refine AtC.seqR ?_
   refine AtL.pures hT 3 _ _ _ _ rfl ?_
   refine AtL.nil ?_
   refine AtE.then_n (AtE.go ?_)
   refine AtC.condB H rfl (fun H => ?_) (fun H => ?_)
   ·
    refine AtC.seqR ?_
    refine AtL.pures hT 2 _ _ _ _ rfl ?_
    refine AtL.nil ?_
    refine AtE.then_n (AtE.go ?_)
    refine AtC.ret ?_
    refine AtE.then_r ?_
    exact AtE.retN (rs := [.tmp 4]) rfl (ResAll.cons (ResAt.tmp rfl) ResAll.nil) rfl H
   ·
    refine AtC.skip ?_
    refine AtE.then_n (AtE.go ?_)
    refine AtC.joinSeq (β := Unit) (fun (t0 : Unit) (bb : Unit) => []) (fun (t0 : Unit) (bb : Unit) => []) [0, 1] [] H (by exact rfl) (by exact rfl) (fun t0 bb h0u2 H => ?_) (fun J1 H HK1 => ?_)
    ·
     refine AtC.seqR ?_
     refine AtL.pures hT 1 _ _ _ _ rfl ?_
     refine AtL.e rfl (EffX.call (f := 94) (sh := fun h => nat_halve _ h _) (H0 := H) rfl Tryz.call94 rfl (hl := fun w m hr hw => lift_nat_halve _ w m hr _ hw)) ?_
     rintro _ _ ⟨v_5, h0u7, rfl, rfl, H⟩
     refine AtL.pures hT 5 _ _ _ _ rfl ?_
     refine AtL.nil ?_
     refine AtE.then_n (AtE.go ?_)
     refine AtC.seqR ?_
     refine AtL.pures hT 1 _ _ _ _ rfl ?_
     refine AtL.e rfl (EffX.call (f := 94) (sh := fun h => nat_halve _ h _) (H0 := H) rfl Tryz.call94 rfl (hl := fun w m hr hw => lift_nat_halve _ w m hr _ hw)) ?_
     rintro _ _ ⟨v_6, h0u8, rfl, rfl, H⟩
     refine AtL.pures hT 5 _ _ _ _ rfl ?_
     refine AtL.nil ?_
     refine AtE.then_n (AtE.go ?_)
     refine AtC.seq ?_
     refine AtC.block ?_
     refine AtC.loopM (fun (s0u1 : Sl × Sl) => [(0, Sl.toV s0u1.1), (1, Sl.toV s0u1.2)]) (fun (s0u1 : Sl × Sl) => []) [9, 10] [0, 1, 9, 10] [] [] H (by exact rfl) (by exact rfl) (by exact rfl) (by decide) (by exact rfl) (fun Kp4 s0u1 h0u9 H Q4 HK4 => ?_)
     refine AtC.seq ?_
     refine AtC.seqR ?_
     refine AtL.pures hT 2 _ _ _ _ rfl ?_
     refine AtL.e rfl (EffX.call (f := 59) (sh := fun h => nat_Cmp _ _ h _) (H0 := H) rfl Tryz.call59 rfl (hl := fun w m hr hw => lift_nat_Cmp _ _ w m hr _ hw)) ?_
     rintro _ _ ⟨v_7, h0u10, rfl, rfl, H⟩
     refine AtL.pures hT 1 _ _ _ _ rfl ?_
     refine AtL.nil ?_
     refine AtE.then_n (AtE.go ?_)
     refine AtC.condB H rfl (fun H => ?_) (fun H => ?_)
     ·
      refine AtC.skip ?_
      refine AtE.then_n (AtE.go ?_)
      refine AtC.block ?_
      refine AtC.joinSeq (β := Unit) (fun (t0u1 : Sl × Sl) (bb_1 : Unit) => [(0, Sl.toV t0u1.1), (1, Sl.toV t0u1.2)]) (fun (t0u1 : Sl × Sl) (bb_1 : Unit) => []) [9, 10] [] H (by exact rfl) (by exact rfl) (fun t0u1 bb_1 h0u11 H => ?_) (fun J5 H HK5 => ?_)
      ·
       refine AtC.region ?_
       refine AtL.pures hT 2 _ _ _ _ rfl ?_
       refine AtL.e rfl (EffX.call (f := 83) (sh := fun h => nat_minus _ _ h _) (H0 := H) rfl Tryz.call83 rfl (hl := fun w m hr hw => lift_nat_minus _ _ w m hr _ hw)) ?_
       rintro _ _ ⟨v_9, h0u13, rfl, rfl, H⟩
       refine AtL.e rfl (EffX.call (f := 94) (sh := fun h => nat_halve _ h _) (H0 := H) rfl Tryz.call94 rfl (hl := fun w m hr hw => lift_nat_halve _ w m hr _ hw)) ?_
       rintro _ _ ⟨v_10, h0u14, rfl, rfl, H⟩
       refine AtL.pures hT 4 _ _ _ _ rfl ?_
       refine AtL.nil ?_
       refine AtE.blk_n ?_
       exact AtE.then_n ((HK4 _ _ H).pickP (ts := [0, 1, 9, 10]) (is := []) rfl rfl (by decide) rfl)
      ·
       refine AtC.seqR ?_
       refine AtL.pures hT 2 _ _ _ _ rfl ?_
       refine AtL.e rfl (EffX.call (f := 59) (sh := fun h => nat_Cmp _ _ h _) (H0 := H) rfl Tryz.call59 rfl (hl := fun w m hr hw => lift_nat_Cmp _ _ w m hr _ hw)) ?_
       rintro _ _ ⟨v_8, h0u12, rfl, rfl, H⟩
       refine AtL.pures hT 1 _ _ _ _ rfl ?_
       refine AtL.nil ?_
       refine AtE.then_n (AtE.go ?_)
       refine AtC.condB H rfl (fun H => ?_) (fun H => ?_)
       ·
        refine AtC.region ?_
        refine AtL.pures hT 4 _ _ _ _ rfl ?_
        refine AtL.nil ?_
        exact AtE.then_n ((HK5 _ () _ H).pickP (ts := [0, 1, 9, 10]) (is := []) rfl rfl (by decide) rfl)
       ·
        refine AtC.skip ?_
        exact AtE.then_n ((HK5 _ () _ H).pickP (ts := [0, 1, 9, 10]) (is := []) rfl rfl (by decide) rfl)
     ·
      refine AtC.exit ?_
      refine AtE.then_x ?_
      refine AtE.then_x ?_
      refine AtE.blk_hit ?_
      refine AtE.then_n (AtE.go ?_)
      refine AtC.seqR ?_
      refine AtL.pures hT 4 _ _ _ _ rfl ?_
      refine AtL.e rfl (EffX.call (f := 95) (sh := fun h => nat_double _ _ h _) (H0 := H) rfl Tryz.call95 rfl (hl := fun w m hr hw => lift_nat_double _ _ w m hr _ hw)) ?_
      rintro _ _ ⟨v_11, h0u15, rfl, rfl, H⟩
      refine AtL.pures hT 1 _ _ _ _ rfl ?_
      refine AtL.nil ?_
      refine AtE.then_n (AtE.go ?_)
      refine AtC.ret ?_
      exact AtE.retN (rs := [.tmp 4]) rfl (ResAll.cons (ResAt.tmp rfl) ResAll.nil) rfl H
    ·
     refine AtC.seqR ?_
     refine AtL.pures hT 1 _ _ _ _ rfl ?_
     refine AtL.e rfl (EffX.call (f := 72) (sh := fun h => nat_small _ h _) (H0 := H) rfl Tryz.call72 rfl (hl := fun w m hr hw => lift_nat_small _ w m hr _ hw)) ?_
     rintro _ _ ⟨v_2, h0u3, rfl, rfl, H⟩
     refine AtL.pures hT 5 _ _ _ _ rfl ?_
     refine AtL.nil ?_
     refine AtE.then_n (AtE.go ?_)
     refine AtC.seqR ?_
     refine AtL.pures hT 1 _ _ _ _ rfl ?_
     refine AtL.nil ?_
     refine AtE.then_n (AtE.go ?_)
     refine AtC.condB H rfl (fun H => ?_) (fun H => ?_)
     ·
      refine AtC.seqR ?_
      refine AtL.pures hT 1 _ _ _ _ rfl ?_
      refine AtL.e rfl (EffX.call (f := 72) (sh := fun h => nat_small _ h _) (H0 := H) rfl Tryz.call72 rfl (hl := fun w m hr hw => lift_nat_small _ w m hr _ hw)) ?_
      rintro _ _ ⟨v_3, h0u4, rfl, rfl, H⟩
      refine AtL.pures hT 5 _ _ _ _ rfl ?_
      refine AtL.nil ?_
      refine AtE.then_n (AtE.go ?_)
      refine AtC.seqR ?_
      refine AtL.pures hT 1 _ _ _ _ rfl ?_
      refine AtL.nil ?_
      refine AtE.then_n (AtE.go ?_)
      refine AtC.condB H rfl (fun H => ?_) (fun H => ?_)
      ·
       refine AtC.seq ?_
       refine AtC.block ?_
       refine AtC.loopM (fun (s0 : Int × Int) => [(5, Value.int .u64 s0.1), (7, Value.int .u64 s0.2)]) (fun (s0 : Int × Int) => []) [] [5, 7] [] [] H (by exact rfl) (by exact rfl) (by exact rfl) (by decide) (by exact rfl) (fun Kp2 s0 h0u5 H Q2 HK2 => ?_)
       refine AtC.seq ?_
       refine AtC.seqR ?_
       refine AtL.pures hT 2 _ _ _ _ rfl ?_
       refine AtL.nil ?_
       refine AtE.then_n (AtE.go ?_)
       refine AtC.condB H rfl (fun H => ?_) (fun H => ?_)
       ·
        refine AtC.skip ?_
        refine AtE.then_n (AtE.go ?_)
        refine AtC.block ?_
        refine AtC.draw hmix (by kernel_rfl) ?_
        refine AtD.pures hT 3 _ _ _ _ rfl ?_
        obtain ⟨hd2, H⟩ := H
        refine AtD.q rfl (Quiet1.rem rfl rfl rfl hd2) ?_
        refine AtD.pures hT 2 _ _ _ _ rfl ?_
        replace H := H _ rfl
        refine AtD.nil ?_
        refine AtE.blk_n ?_
        exact AtE.then_n ((HK2 _ _ H).pickP (ts := [5, 7]) (is := []) rfl rfl (by decide) rfl)
       ·
        refine AtC.exit ?_
        refine AtE.then_x ?_
        refine AtE.then_x ?_
        refine AtE.blk_hit ?_
        refine AtE.then_n (AtE.go ?_)
        refine AtC.seqR ?_
        refine AtL.pures hT 1 _ _ _ _ rfl ?_
        refine AtL.e rfl (EffX.call (f := 86) (sh := fun h => nat_Of _ h _) (H0 := H) rfl Tryz.call86 rfl (hl := fun w m hr hw => lift_nat_Of _ w m hr _ hw)) ?_
        rintro _ _ ⟨v_4, h0u6, rfl, rfl, H⟩
        refine AtL.pures hT 1 _ _ _ _ rfl ?_
        refine AtL.nil ?_
        refine AtE.then_n (AtE.go ?_)
        refine AtC.ret ?_
        refine AtE.then_r ?_
        exact AtE.retN (rs := [.tmp 4]) rfl (ResAll.cons (ResAt.tmp rfl) ResAll.nil) rfl H
      ·
       refine AtC.skip ?_
       exact AtE.then_n ((HK1 _ () _ H).pickP (ts := [0, 1]) (is := []) rfl rfl (by decide) rfl)
     ·
      refine AtC.skip ?_
      exact AtE.then_n ((HK1 _ () _ H).pickP (ts := [0, 1]) (is := []) rfl rfl (by decide) rfl)

theorem lift_nat_Bench_Gcd (b : (Option Addr)) (x0 : Sl) (y : Sl) (w : World) (m : Heap) (hr : Rel ⟨m, []⟩ w.heap) (S : Sl → Heap → Prop) (H : nat_Bench_Gcd b x0 y m S) :
    Calls Tryz.prog 62 #[Value.pointer b, Sl.toV x0, Sl.toV y] w (Post ⟨w, m⟩ Sl.toV S) := by
  refine Calls.lift (args := [Value.pointer b, Sl.toV x0, Sl.toV y]) Tryz.func62 rfl Tryz.ntmps62 (Nat.le_of_ble_eq_true rfl) hr (nat_Bench_Gcd b x0 y m S) H (fun H => ?_)
  refine AtC.pick (ts := [0, 1, 2]) rfl ?_
  unfold nat_Bench_Gcd at H
  refine AtC.seqR ?_
  refine AtL.pures hT 1 _ _ _ _ rfl ?_
  refine AtL.nil ?_
  refine AtE.then_n (AtE.go ?_)
  refine AtC.seqR ?_
  refine AtL.pures hT 3 _ _ _ _ rfl ?_
  refine AtL.e rfl (EffX.call (f := 84) (sh := fun h => nat_common _ _ h _) (H0 := H) rfl Tryz.call84 rfl (hl := fun w m hr hw => lift_nat_common _ _ w m hr _ hw)) ?_
  rintro _ _ ⟨v, h0, rfl, rfl, H⟩
  refine AtL.e rfl (EffX.call (f := 65) (sh := fun h => nat_Bench_fit _ _ h _) (H0 := H) rfl Tryz.call65 rfl (hl := fun w m hr hw => lift_nat_Bench_fit _ _ w m hr _ hw)) ?_
  rintro _ _ ⟨v_1, h0u1, rfl, rfl, H⟩
  refine AtL.pures hT 1 _ _ _ _ rfl ?_
  refine AtL.nil ?_
  refine AtE.then_n (AtE.go ?_)
  refine AtC.ret ?_
  exact AtE.retN (rs := [.tmp 6]) rfl (ResAll.cons (ResAt.tmp rfl) ResAll.nil) rfl H

theorem lift_nat_bit (x0 : Sl) (at0 : Int) (w : World) (m : Heap) (hr : Rel ⟨m, []⟩ w.heap) (S : Int → Heap → Prop) (H : nat_bit x0 at0 m S) :
    Calls Tryz.prog 87 #[Sl.toV x0, Value.int .i64 at0] w (Post ⟨w, m⟩ (Value.int .u32) S) := by
  refine Calls.lift (args := [Sl.toV x0, Value.int .i64 at0]) Tryz.func87 rfl Tryz.ntmps87 (Nat.le_of_ble_eq_true rfl) hr (nat_bit x0 at0 m S) H (fun H => ?_)
  refine AtC.pick (ts := [0, 1]) rfl ?_
  unfold nat_bit at H
  refine AtC.seqR ?_
  refine AtL.pures hT 1 _ _ _ _ rfl ?_
  refine AtL.nil ?_
  refine AtE.then_n (AtE.go ?_)
  refine AtC.seqR ?_
  refine AtL.pures hT 3 _ _ _ _ rfl ?_
  obtain ⟨a_, hc0, hd0, H⟩ := H
  refine AtL.q rfl (Quiet1.idxS (s := _) hT rfl rfl rfl rfl rfl hc0 hd0) ?_
  obtain ⟨v, hc1, H⟩ := H
  refine AtL.q rfl (Quiet1.load hT rfl rfl rfl hc1) ?_
  refine AtL.pures hT 2 _ _ _ _ rfl ?_
  obtain ⟨hd2, H⟩ := H
  refine AtL.q rfl (Quiet1.shr rfl rfl rfl hd2) ?_
  refine AtL.pures hT 2 _ _ _ _ rfl ?_
  refine AtL.nil ?_
  refine AtE.then_n (AtE.go ?_)
  refine AtC.ret ?_
  exact AtE.retN (rs := [.tmp 4]) rfl (ResAll.cons (ResAt.tmp rfl) ResAll.nil) rfl H

theorem lift_nat_divide (x0 : Sl) (y : Sl) (w : World) (m : Heap) (hr : Rel ⟨m, []⟩ w.heap) (S : (Sl × Sl) → Heap → Prop) (H : nat_divide x0 y m S) :
    Calls Tryz.prog 71 #[Sl.toV x0, Sl.toV y] w (Post ⟨w, m⟩ (fun r => Value.tuple #[Sl.toV r.1, Sl.toV r.2]) S) := by
  refine Calls.lift (args := [Sl.toV x0, Sl.toV y]) Tryz.func71 rfl Tryz.ntmps71 (Nat.le_of_ble_eq_true rfl) hr (nat_divide x0 y m S) H (fun H => ?_)
  refine AtC.pick (ts := [0, 1]) rfl ?_
  unfold nat_divide at H
  refine AtC.seqR ?_
  refine AtL.pures hT 2 _ _ _ _ rfl ?_
  refine AtL.nil ?_
  refine AtE.then_n (AtE.go ?_)
  refine AtC.seqR ?_
  refine AtL.pures hT 1 _ _ _ _ rfl ?_
  refine AtL.e rfl (EffX.call (f := 72) (sh := fun h => nat_small _ h _) (H0 := H) rfl Tryz.call72 rfl (hl := fun w m hr hw => lift_nat_small _ w m hr _ hw)) ?_
  rintro _ _ ⟨v, h0, rfl, rfl, H⟩
  refine AtL.pures hT 5 _ _ _ _ rfl ?_
  refine AtL.nil ?_
  refine AtE.then_n (AtE.go ?_)
  refine AtC.seqR ?_
  refine AtL.pures hT 1 _ _ _ _ rfl ?_
  refine AtL.e rfl (EffX.call (f := 72) (sh := fun h => nat_small _ h _) (H0 := H) rfl Tryz.call72 rfl (hl := fun w m hr hw => lift_nat_small _ w m hr _ hw)) ?_
  rintro _ _ ⟨v_1, h0u1, rfl, rfl, H⟩
  refine AtL.pures hT 5 _ _ _ _ rfl ?_
  refine AtL.nil ?_
  refine AtE.then_n (AtE.go ?_)
  refine AtC.seq ?_
  refine AtC.joinSeq (β := Unit) (fun (t0 : Bool) (bb : Unit) => [(24, Value.bool t0)]) (fun (t0 : Bool) (bb : Unit) => []) [0, 1, 5, 6, 8] [] H (by exact rfl) (by exact rfl) (fun t0 bb h0u2 H => ?_) (fun J1 H HK1 => ?_)
  ·
   refine AtC.condB H rfl (fun H => ?_) (fun H => ?_)
   ·
    obtain ⟨hd1, H⟩ := H
    obtain ⟨hd2, H⟩ := H
    apply AtC.seqS [3, 7] [[], [], [], [], [], [], [], [3], [3, 7], [3, 7]] [[], [], [0, 1], [0, 1, 2], [], [], [4, 5], [0, 1, 2, 3, 4, 5, 6], [0, 1, 2, 3, 4, 5, 6, 7], [0, 1, 2, 3, 4, 5, 6, 7, 8]] hmix (by kernel_rfl) [(25, _), (26, _), (27, _), (29, _), (30, _), (31, _)] rfl 2 rfl
    refine Stg.go [0, 1, 2, 4, 5, 6] [3] rfl rfl (QAll.cons (QOp.p hT rfl rfl rfl rfl rfl) (QAll.cons (QOp.p hT rfl rfl rfl rfl rfl) (QAll.cons (QOp.q rfl rfl (Quiet1.quo rfl rfl rfl hd1) rfl rfl) (QAll.cons (QOp.p hT rfl rfl rfl rfl rfl) (QAll.cons (QOp.p hT rfl rfl rfl rfl rfl) (QAll.cons (QOp.q rfl rfl (Quiet1.rem rfl rfl rfl hd2) rfl rfl) QAll.nil)))))) ?_
    refine EAll.cons ?_ EAll.nil
    refine EOp.e rfl rfl rfl (EffX.call (f := 86) (sh := fun h => nat_Of _ h _) (H0 := H) rfl Tryz.call86 rfl (hl := fun w m hr hw => lift_nat_Of _ w m hr _ hw)) ?_
    rintro _ _ ⟨v_2, h0u3, rfl, rfl, H⟩
    apply Stg.next [(28, _)] rfl rfl
    refine Stg.go [4, 5, 6] [7] rfl rfl (QAll.cons (QOp.p hT rfl rfl rfl rfl rfl) (QAll.cons (QOp.p hT rfl rfl rfl rfl rfl) (QAll.cons (QOp.q rfl rfl (Quiet1.rem rfl rfl rfl hd2) rfl rfl) QAll.nil))) ?_
    refine EAll.cons ?_ EAll.nil
    refine EOp.e rfl rfl rfl (EffX.call (f := 86) (sh := fun h => nat_Of _ h _) (H0 := H) rfl Tryz.call86 rfl (hl := fun w m hr hw => lift_nat_Of _ w m hr _ hw)) ?_
    rintro _ _ ⟨v_3, h0u4, rfl, rfl, H⟩
    apply Stg.next [(32, _), (4, _), (5, _)] rfl rfl
    refine Stg.fin [8, 9] rfl rfl (QAll.cons (QOp.p hT rfl rfl rfl rfl rfl) (QAll.cons (QOp.p hT rfl rfl rfl rfl rfl) QAll.nil)) ?_
    refine AtE.then_n (AtE.go ?_)
    refine AtC.ret ?_
    refine AtE.then_r ?_
    exact AtE.retN (rs := [.tmp 4, .tmp 5]) rfl (ResAll.cons (ResAt.tmp rfl) (ResAll.cons (ResAt.tmp rfl) ResAll.nil)) rfl H
   ·
    refine AtC.skip ?_
    refine AtE.then_n (AtE.go ?_)
    refine AtC.seqR ?_
    refine AtL.pures hT 1 _ _ _ _ rfl ?_
    refine AtL.e rfl (EffX.call (f := 67) (sh := fun h => nat_trim _ h _) (H0 := H) rfl Tryz.call67 rfl (hl := fun w m hr hw => lift_nat_trim _ w m hr _ hw)) ?_
    rintro _ _ ⟨v_4, h0u5, rfl, rfl, H⟩
    refine AtL.pures hT 1 _ _ _ _ rfl ?_
    refine AtL.e rfl (EffX.call (f := 67) (sh := fun h => nat_trim _ h _) (H0 := H) rfl Tryz.call67 rfl (hl := fun w m hr hw => lift_nat_trim _ w m hr _ hw)) ?_
    rintro _ _ ⟨v_5, h0u6, rfl, rfl, H⟩
    refine AtL.pures hT 2 _ _ _ _ rfl ?_
    refine AtL.nil ?_
    refine AtE.then_n (AtE.go ?_)
    refine AtC.seqR ?_
    refine AtL.pures hT 2 _ _ _ _ rfl ?_
    replace H := H _ rfl
    refine AtL.e rfl (EffX.mkS hT rfl rfl rfl rfl rfl rfl rfl rfl (by decide) H) ?_
    rintro _ _ ⟨v_6, h0u7, rfl, rfl, H⟩
    refine AtL.pures hT 1 _ _ _ _ rfl ?_
    refine AtL.nil ?_
    refine AtE.then_n (AtE.go ?_)
    refine AtC.seq ?_
    refine AtC.seqR ?_
    refine AtL.pures hT 5 _ _ _ _ rfl ?_
    replace H := H _ rfl
    refine AtL.nil ?_
    refine AtE.then_n (AtE.go ?_)
    refine AtC.block ?_
    refine AtC.loopM (fun (s0 : Sl × Int) => [(5, Sl.toV s0.1), (10, Value.int .i64 s0.2)]) (fun (s0 : Sl × Int) => []) [0, 1, 4] [5, 10, 0, 1, 4] [] [] H (by exact rfl) (by exact rfl) (by exact rfl) (by decide) (by exact rfl) (fun Kp4 s0 h0u8 H Q4 HK4 => ?_)
    refine AtC.seq ?_
    refine AtC.seqR ?_
    refine AtL.pures hT 2 _ _ _ _ rfl ?_
    refine AtL.nil ?_
    refine AtE.then_n (AtE.go ?_)
    refine AtC.condB H rfl (fun H => ?_) (fun H => ?_)
    ·
     refine AtC.skip ?_
     refine AtE.then_n (AtE.go ?_)
     refine AtC.joinSeq (β := Unit) (fun (t0u1 : Sl) (bb_1 : Unit) => [(5, Sl.toV t0u1)]) (fun (t0u1 : Sl) (bb_1 : Unit) => []) [0, 1, 4, 10] [] H (by exact rfl) (by exact rfl) (fun t0u1 bb_1 h0u9 H => ?_) (fun J5 H HK5 => ?_)
     ·
      refine AtC.region ?_
      refine AtL.pures hT 3 _ _ _ _ rfl ?_
      replace H := H _ rfl
      refine AtL.nil ?_
      exact AtE.then_n ((HK4 _ _ H).pickP (ts := [5, 10, 0, 1, 4]) (is := []) rfl rfl (by decide) rfl)
     ·
      refine AtC.block ?_
      refine AtC.seqR ?_
      refine AtL.pures hT 2 _ _ _ _ rfl ?_
      refine AtL.e rfl (EffX.call (f := 81) (sh := fun h => nat_plus _ _ h _) (H0 := H) rfl Tryz.call81 rfl (hl := fun w m hr hw => lift_nat_plus _ _ w m hr _ hw)) ?_
      rintro _ _ ⟨v_7, h0u10, rfl, rfl, H⟩
      refine AtL.pures hT 1 _ _ _ _ rfl ?_
      refine AtL.nil ?_
      refine AtE.then_n (AtE.go ?_)
      obtain ⟨a_, hc5, hd5, H⟩ := H
      obtain ⟨v_8, hc6, H⟩ := H
      apply AtC.seqS [5, 8] [[], [], [], [], [], [], [5], [5], [5]] [[], [0], [0, 1], [], [], [3, 4], [0, 1, 2, 3, 4, 5], [0, 1, 2, 3, 4, 5, 6], [0, 1, 2, 3, 4, 5, 6, 7]] hmix (by kernel_rfl) [(51, _), (52, _), (53, _), (54, _), (55, _)] rfl 2 rfl
      refine Stg.go [0, 1, 2, 3, 4] [5] rfl rfl (QAll.cons (QOp.p hT rfl rfl rfl rfl rfl) (QAll.cons (QOp.q rfl rfl (Quiet1.idxS (s := _) hT rfl rfl rfl rfl rfl hc5 hd5) rfl rfl) (QAll.cons (QOp.q rfl rfl (Quiet1.load hT rfl rfl rfl hc6) rfl rfl) (QAll.cons (QOp.p hT rfl rfl rfl rfl rfl) (QAll.cons (QOp.p hT rfl rfl rfl rfl rfl) QAll.nil))))) ?_
      refine EAll.cons ?_ EAll.nil
      refine EOp.e rfl rfl rfl (EffX.call (f := 87) (sh := fun h => nat_bit _ _ h _) (H0 := H) rfl Tryz.call87 rfl (hl := fun w m hr hw => lift_nat_bit _ _ w m hr _ hw)) ?_
      rintro _ _ ⟨v_9, h0u11, rfl, rfl, H⟩
      obtain ⟨hc7, H⟩ := H
      obtain ⟨a_1_, hc8, hd8, H⟩ := H
      apply Stg.next [(56, _), (57, _), (58, _)] rfl rfl
      refine Stg.go [0, 1, 2, 6, 7] [8] rfl rfl (QAll.cons (QOp.p hT rfl rfl rfl rfl rfl) (QAll.cons (QOp.q rfl rfl (Quiet1.idxS (s := _) hT rfl rfl rfl rfl rfl hc5 hd5) rfl rfl) (QAll.cons (QOp.q rfl rfl (Quiet1.load hT rfl rfl rfl hc7) rfl rfl) (QAll.cons (QOp.p hT rfl rfl rfl rfl rfl) (QAll.cons (QOp.q rfl rfl (Quiet1.idxS (s := _) hT rfl rfl rfl rfl rfl hc8 hd8) rfl rfl) QAll.nil))))) ?_
      refine EAll.cons ?_ EAll.nil
      refine EOp.e rfl rfl rfl (EffX.store hT rfl rfl rfl rfl rfl H) ?_
      rintro _ _ ⟨h0u12, rfl, H⟩
      apply Stg.next [] rfl rfl
      refine Stg.fin [] rfl rfl QAll.nil ?_
      refine AtE.then_n (AtE.go ?_)
      refine AtC.seqR ?_
      refine AtL.pures hT 1 _ _ _ _ rfl ?_
      refine AtL.e rfl (EffX.call (f := 67) (sh := fun h => nat_trim _ h _) (H0 := H) rfl Tryz.call67 rfl (hl := fun w m hr hw => lift_nat_trim _ w m hr _ hw)) ?_
      rintro _ _ ⟨v_10, h0u13, rfl, rfl, H⟩
      refine AtL.pures hT 1 _ _ _ _ rfl ?_
      refine AtL.nil ?_
      refine AtE.then_n (AtE.go ?_)
      refine AtC.seqR ?_
      refine AtL.pures hT 2 _ _ _ _ rfl ?_
      refine AtL.e rfl (EffX.call (f := 59) (sh := fun h => nat_Cmp _ _ h _) (H0 := H) rfl Tryz.call59 rfl (hl := fun w m hr hw => lift_nat_Cmp _ _ w m hr _ hw)) ?_
      rintro _ _ ⟨v_11, h0u14, rfl, rfl, H⟩
      refine AtL.pures hT 1 _ _ _ _ rfl ?_
      refine AtL.nil ?_
      refine AtE.then_n (AtE.go ?_)
      refine AtC.condB H rfl (fun H => ?_) (fun H => ?_)
      ·
       refine AtC.seqR ?_
       refine AtL.pures hT 2 _ _ _ _ rfl ?_
       refine AtL.e rfl (EffX.call (f := 83) (sh := fun h => nat_minus _ _ h _) (H0 := H) rfl Tryz.call83 rfl (hl := fun w m hr hw => lift_nat_minus _ _ w m hr _ hw)) ?_
       rintro _ _ ⟨v_12, h0u15, rfl, rfl, H⟩
       refine AtL.pures hT 1 _ _ _ _ rfl ?_
       refine AtL.nil ?_
       refine AtE.then_n (AtE.go ?_)
       obtain ⟨a_2_, hc9, hd9, H⟩ := H
       obtain ⟨v_13, hc10, H⟩ := H
       obtain ⟨hd11, H⟩ := H
       obtain ⟨a_3_, hc12, hd12, H⟩ := H
       apply AtC.stages [10] [[], [], [], [], [], [], [], [], [], [], []] [[], [], [1], [0, 1, 2], [0, 1, 2, 3], [], [5], [5, 6], [0, 1, 2, 3, 4, 5, 6, 7], [0, 1, 2, 3, 4, 5, 6, 7, 8], [0, 1, 2, 3, 4, 5, 6, 7, 8, 9]] hmix (by kernel_rfl) [(68, _), (69, _), (70, _), (71, _), (72, _), (73, _), (74, _), (75, _), (76, _), (77, _)] rfl 1 rfl
       refine Stg.go [0, 1, 2, 3, 4, 5, 6, 7, 8, 9] [10] rfl rfl (QAll.cons (QOp.p hT rfl rfl rfl rfl rfl) (QAll.cons (QOp.p hT rfl rfl rfl rfl rfl) (QAll.cons (QOp.p hT rfl rfl rfl rfl rfl) (QAll.cons (QOp.q rfl rfl (Quiet1.idxS (s := _) hT rfl rfl rfl rfl rfl hc9 hd9) rfl rfl) (QAll.cons (QOp.q rfl rfl (Quiet1.load hT rfl rfl rfl hc10) rfl rfl) (QAll.cons (QOp.p hT rfl rfl rfl rfl rfl) (QAll.cons (QOp.p hT rfl rfl rfl rfl rfl) (QAll.cons (QOp.q rfl rfl (Quiet1.shl rfl rfl rfl hd11) rfl rfl) (QAll.cons (QOp.p hT rfl rfl rfl rfl rfl) (QAll.cons (QOp.q rfl rfl (Quiet1.idxS (s := _) hT rfl rfl rfl rfl rfl hc12 hd12) rfl rfl) QAll.nil)))))))))) ?_
       refine EAll.cons ?_ EAll.nil
       refine EOp.e rfl rfl rfl (EffX.store hT rfl rfl rfl rfl rfl H) ?_
       rintro _ _ ⟨h0u16, rfl, H⟩
       apply Stg.next [] rfl rfl
       refine Stg.fin [] rfl rfl QAll.nil ?_
       refine AtE.blk_n ?_
       exact AtE.then_n ((HK5 _ () _ H).pickP (ts := [5, 0, 1, 4, 10]) (is := []) rfl rfl (by decide) rfl)
      ·
       refine AtC.skip ?_
       refine AtE.blk_n ?_
       exact AtE.then_n ((HK5 _ () _ H).pickP (ts := [5, 0, 1, 4, 10]) (is := []) rfl rfl (by decide) rfl)
    ·
     refine AtC.exit ?_
     refine AtE.then_x ?_
     refine AtE.then_x ?_
     refine AtE.blk_hit ?_
     refine AtE.then_n (AtE.go ?_)
     refine AtC.seqR ?_
     refine AtL.pures hT 1 _ _ _ _ rfl ?_
     refine AtL.e rfl (EffX.call (f := 67) (sh := fun h => nat_trim _ h _) (H0 := H) rfl Tryz.call67 rfl (hl := fun w m hr hw => lift_nat_trim _ w m hr _ hw)) ?_
     rintro _ _ ⟨v_14, h0u17, rfl, rfl, H⟩
     refine AtL.pures hT 3 _ _ _ _ rfl ?_
     refine AtL.nil ?_
     refine AtE.then_n (AtE.go ?_)
     refine AtC.ret ?_
     exact AtE.retN (rs := [.tmp 4, .tmp 5]) rfl (ResAll.cons (ResAt.tmp rfl) (ResAll.cons (ResAt.tmp rfl) ResAll.nil)) rfl H
  ·
   refine AtC.region ?_
   refine AtL.pures hT 2 _ _ _ _ rfl ?_
   refine AtL.splitB (t := 22) H rfl (fun H => ?_) (fun H => ?_)
   ·
    refine AtL.yes rfl rfl rfl ?_
    refine AtL.pures hT 1 _ _ _ _ rfl ?_
    refine AtL.pures hT 1 _ _ _ _ rfl ?_
    refine AtL.nil ?_
    exact AtE.then_n ((HK1 _ () _ H).pickP (ts := [24, 0, 1, 5, 6, 8]) (is := []) rfl rfl (by decide) rfl)
   ·
    refine AtL.noF rfl rfl rfl (by decide) rfl ?_
    refine AtL.pures hT 1 _ _ _ _ rfl ?_
    refine AtL.nil ?_
    exact AtE.then_n ((HK1 _ () _ H).pickP (ts := [24, 0, 1, 5, 6, 8]) (is := []) rfl rfl (by decide) rfl)

theorem lift_nat_Bench_Div (b : (Option Addr)) (x0 : Sl) (y : Sl) (w : World) (m : Heap) (hr : Rel ⟨m, []⟩ w.heap) (S : (Sl × Sl) → Heap → Prop) (H : nat_Bench_Div b x0 y m S) :
    Calls Tryz.prog 63 #[Value.pointer b, Sl.toV x0, Sl.toV y] w (Post ⟨w, m⟩ (fun r => Value.tuple #[Sl.toV r.1, Sl.toV r.2]) S) := by
  refine Calls.lift (args := [Value.pointer b, Sl.toV x0, Sl.toV y]) Tryz.func63 rfl Tryz.ntmps63 (Nat.le_of_ble_eq_true rfl) hr (nat_Bench_Div b x0 y m S) H (fun H => ?_)
  refine AtC.pick (ts := [0, 1, 2]) rfl ?_
  unfold nat_Bench_Div at H
  refine AtC.seqR ?_
  refine AtL.pures hT 2 _ _ _ _ rfl ?_
  refine AtL.nil ?_
  refine AtE.then_n (AtE.go ?_)
  refine AtC.seq ?_
  refine AtC.seqR ?_
  refine AtL.pures hT 1 _ _ _ _ rfl ?_
  refine AtL.e rfl (EffX.call (f := 67) (sh := fun h => nat_trim _ h _) (H0 := H) rfl Tryz.call67 rfl (hl := fun w m hr hw => lift_nat_trim _ w m hr _ hw)) ?_
  rintro _ _ ⟨v, h0, rfl, rfl, H⟩
  refine AtL.pures hT 2 _ _ _ _ rfl ?_
  refine AtL.nil ?_
  refine AtE.then_n (AtE.go ?_)
  refine AtC.condB H rfl (fun H => ?_) (fun H => ?_)
  ·
   refine AtC.seqR ?_
   refine AtL.pures hT 2 _ _ _ _ rfl ?_
   refine AtL.nil ?_
   refine AtE.then_n (AtE.go ?_)
   refine AtC.ret ?_
   refine AtE.then_r ?_
   exact AtE.retN (rs := [.tmp 6, .tmp 7]) rfl (ResAll.cons (ResAt.tmp rfl) (ResAll.cons (ResAt.tmp rfl) ResAll.nil)) rfl H
  ·
   refine AtC.skip ?_
   refine AtE.then_n (AtE.go ?_)
   refine AtC.seqR ?_
   refine AtL.pures hT 2 _ _ _ _ rfl ?_
   refine AtL.e rfl (EffX.call (f := 71) (sh := fun h => nat_divide _ _ h _) (H0 := H) rfl Tryz.call71 rfl (hl := fun w m hr hw => lift_nat_divide _ _ w m hr _ hw)) ?_
   rintro _ _ ⟨v_1, h0u1, rfl, rfl, H⟩
   refine AtL.pures hT 5 _ _ _ _ rfl ?_
   refine AtL.nil ?_
   refine AtE.then_n (AtE.go ?_)
   refine AtC.seqR ?_
   refine AtL.pures hT 2 _ _ _ _ rfl ?_
   refine AtL.e rfl (EffX.call (f := 65) (sh := fun h => nat_Bench_fit _ _ h _) (H0 := H) rfl Tryz.call65 rfl (hl := fun w m hr hw => lift_nat_Bench_fit _ _ w m hr _ hw)) ?_
   rintro _ _ ⟨v_2, h0u2, rfl, rfl, H⟩
   refine AtL.pures hT 2 _ _ _ _ rfl ?_
   refine AtL.e rfl (EffX.call (f := 65) (sh := fun h => nat_Bench_fit _ _ h _) (H0 := H) rfl Tryz.call65 rfl (hl := fun w m hr hw => lift_nat_Bench_fit _ _ w m hr _ hw)) ?_
   rintro _ _ ⟨v_3, h0u3, rfl, rfl, H⟩
   refine AtL.pures hT 2 _ _ _ _ rfl ?_
   refine AtL.nil ?_
   refine AtE.then_n (AtE.go ?_)
   refine AtC.seq ?_
   refine AtC.seqR ?_
   refine AtL.pures hT 1 _ _ _ _ rfl ?_
   obtain ⟨a, hc0, H⟩ := H
   refine AtL.q rfl (Quiet1.nilChk rfl rfl hc0) ?_
   refine AtL.pures hT 1 _ _ _ _ rfl ?_
   obtain ⟨v_4, hc1, H⟩ := H
   refine AtL.q rfl (Quiet1.load hT rfl rfl rfl hc1) ?_
   refine AtL.nil ?_
   refine AtE.then_n (AtE.go ?_)
   refine AtC.condB H rfl (fun H => ?_) (fun H => ?_)
   ·
    refine AtC.seqR ?_
    refine AtL.pures hT 2 _ _ _ _ rfl ?_
    refine AtL.nil ?_
    refine AtE.then_n (AtE.go ?_)
    refine AtC.ret ?_
    refine AtE.then_r ?_
    exact AtE.retN (rs := [.tmp 6, .tmp 7]) rfl (ResAll.cons (ResAt.tmp rfl) (ResAll.cons (ResAt.tmp rfl) ResAll.nil)) rfl H
   ·
    refine AtC.skip ?_
    refine AtE.then_n (AtE.go ?_)
    refine AtC.seqR ?_
    refine AtL.pures hT 4 _ _ _ _ rfl ?_
    refine AtL.nil ?_
    refine AtE.then_n (AtE.go ?_)
    refine AtC.ret ?_
    exact AtE.retN (rs := [.tmp 6, .tmp 7]) rfl (ResAll.cons (ResAt.tmp rfl) (ResAll.cons (ResAt.tmp rfl) ResAll.nil)) rfl H

theorem lift_ratio_one (w : World) (m : Heap) (hr : Rel ⟨m, []⟩ w.heap) (S : Sl → Heap → Prop) (H : ratio_one m S) :
    Calls Tryz.prog 68 #[] w (Post ⟨w, m⟩ Sl.toV S) := by
  refine Calls.lift (args := []) Tryz.func68 rfl Tryz.ntmps68 (Nat.le_of_ble_eq_true rfl) hr (ratio_one m S) H (fun H => ?_)
  refine AtC.pick (ts := []) rfl ?_
  unfold ratio_one at H
  refine AtC.seqR ?_
  refine AtL.pures hT 1 _ _ _ _ rfl ?_
  refine AtL.nil ?_
  refine AtE.then_n (AtE.go ?_)
  refine AtC.seqR ?_
  refine AtLX.bs (hT := hT) (cs := [_]) H rfl rfl rfl rfl rfl rfl rfl rfl rfl (fun a h0 H => ?_)
  refine AtL.pures hT 1 _ _ _ _ rfl ?_
  refine AtL.nil ?_
  refine AtE.then_n (AtE.go ?_)
  refine AtC.ret ?_
  exact AtE.retN (rs := [.tmp 0]) rfl (ResAll.cons (ResAt.tmp rfl) ResAll.nil) rfl H

theorem lift_slices_Equal_api_Nat_uint32 (s1 : Sl) (s2 : Sl) (w : World) (m : Heap) (hr : Rel ⟨m, []⟩ w.heap) (S : Bool → Heap → Prop) (H : slices_Equal_api_Nat_uint32 s1 s2 m S) :
    Calls Tryz.prog 85 #[Sl.toV s1, Sl.toV s2] w (Post ⟨w, m⟩ Value.bool S) := by
  refine Calls.lift (args := [Sl.toV s1, Sl.toV s2]) Tryz.func85 rfl Tryz.ntmps85 (Nat.le_of_ble_eq_true rfl) hr (slices_Equal_api_Nat_uint32 s1 s2 m S) H (fun H => ?_)
  refine AtC.pick (ts := [0, 1]) rfl ?_
  unfold slices_Equal_api_Nat_uint32 at H
  refine AtC.seqR ?_
  refine AtL.pures hT 1 _ _ _ _ rfl ?_
  refine AtL.nil ?_
  refine AtE.then_n (AtE.go ?_)
  refine AtC.seq ?_
  refine AtC.seqR ?_
  refine AtL.pures hT 5 _ _ _ _ rfl ?_
  refine AtL.nil ?_
  refine AtE.then_n (AtE.go ?_)
  refine AtC.condB H rfl (fun H => ?_) (fun H => ?_)
  ·
   refine AtC.seqR ?_
   refine AtL.pures hT 1 _ _ _ _ rfl ?_
   refine AtL.nil ?_
   refine AtE.then_n (AtE.go ?_)
   refine AtC.ret ?_
   refine AtE.then_r ?_
   exact AtE.retN (rs := [.tmp 4]) rfl (ResAll.cons (ResAt.tmp rfl) ResAll.nil) rfl H
  ·
   refine AtC.skip ?_
   refine AtE.then_n (AtE.go ?_)
   refine AtC.seq ?_
   refine AtC.seqR ?_
   refine AtL.pures hT 3 _ _ _ _ rfl ?_
   refine AtL.nil ?_
   refine AtE.then_n (AtE.go ?_)
   refine AtC.block ?_
   refine AtC.loopM (fun (s0 : Int) => [(13, Value.int .i64 s0)]) (fun (s0 : Int) => []) [0, 1, 12] [13, 0, 1, 12] [] [] H (by exact rfl) (by exact rfl) (by exact rfl) (by decide) (by exact rfl) (fun Kp1 s0 h0 H Q1 HK1 => ?_)
   refine AtC.seqR ?_
   refine AtL.pures hT 1 _ _ _ _ rfl ?_
   refine AtL.nil ?_
   refine AtE.then_n (AtE.go ?_)
   refine AtC.seq ?_
   refine AtC.condB H rfl (fun H => ?_) (fun H => ?_)
   ·
    refine AtC.skip ?_
    refine AtE.then_n (AtE.go ?_)
    refine AtC.seq ?_
    refine AtC.block ?_
    refine AtC.seqR ?_
    refine AtL.pures hT 2 _ _ _ _ rfl ?_
    refine AtL.nil ?_
    refine AtE.then_n (AtE.go ?_)
    refine AtC.seqD hmix (by kernel_rfl) ?_
    refine AtD.pures hT 2 _ _ _ _ rfl ?_
    obtain ⟨a_, hc1, hd1, H⟩ := H
    refine AtD.q rfl (Quiet1.idxS (s := _) hT rfl rfl rfl rfl rfl hc1 hd1) ?_
    obtain ⟨v, hc2, H⟩ := H
    refine AtD.q rfl (Quiet1.load hT rfl rfl rfl hc2) ?_
    refine AtD.pures hT 2 _ _ _ _ rfl ?_
    obtain ⟨a_1_, hc3, hd3, H⟩ := H
    refine AtD.q rfl (Quiet1.idxS (s := _) hT rfl rfl rfl rfl rfl hc3 hd3) ?_
    obtain ⟨v_1, hc4, H⟩ := H
    refine AtD.q rfl (Quiet1.load hT rfl rfl rfl hc4) ?_
    refine AtD.pures hT 1 _ _ _ _ rfl ?_
    refine AtD.nil ?_
    refine AtE.then_n (AtE.go ?_)
    refine AtC.condB H rfl (fun H => ?_) (fun H => ?_)
    ·
     refine AtC.seqR ?_
     refine AtL.pures hT 1 _ _ _ _ rfl ?_
     refine AtL.nil ?_
     refine AtE.then_n (AtE.go ?_)
     refine AtC.ret ?_
     refine AtE.blk_r ?_
     refine AtE.then_r ?_
     refine AtE.then_r ?_
     refine AtE.blk_r ?_
     refine AtE.then_r ?_
     exact AtE.retN (rs := [.tmp 4]) rfl (ResAll.cons (ResAt.tmp rfl) ResAll.nil) rfl H
    ·
     refine AtC.skip ?_
     refine AtE.blk_n ?_
     refine AtE.then_n (AtE.go ?_)
     refine AtC.region ?_
     refine AtL.pures hT 2 _ _ _ _ rfl ?_
     refine AtL.nil ?_
     exact AtE.then_n ((HK1 _ _ H).pickP (ts := [13, 0, 1, 12]) (is := []) rfl rfl (by decide) rfl)
   ·
    refine AtC.exit ?_
    refine AtE.then_x ?_
    refine AtE.then_x ?_
    refine AtE.blk_hit ?_
    refine AtE.then_n (AtE.go ?_)
    refine AtC.seqR ?_
    refine AtL.pures hT 1 _ _ _ _ rfl ?_
    refine AtL.nil ?_
    refine AtE.then_n (AtE.go ?_)
    refine AtC.ret ?_
    exact AtE.retN (rs := [.tmp 4]) rfl (ResAll.cons (ResAt.tmp rfl) ResAll.nil) rfl H

theorem lift_ratio_isOne (x0 : Sl) (w : World) (m : Heap) (hr : Rel ⟨m, []⟩ w.heap) (S : Bool → Heap → Prop) (H : ratio_isOne x0 m S) :
    Calls Tryz.prog 64 #[Sl.toV x0] w (Post ⟨w, m⟩ Value.bool S) := by
  refine Calls.lift (args := [Sl.toV x0]) Tryz.func64 rfl Tryz.ntmps64 (Nat.le_of_ble_eq_true rfl) hr (ratio_isOne x0 m S) H (fun H => ?_)
  refine AtC.pick (ts := [0]) rfl ?_
  unfold ratio_isOne at H
  refine AtC.seqR ?_
  refine AtL.pures hT 1 _ _ _ _ rfl ?_
  refine AtL.nil ?_
  refine AtE.then_n (AtE.go ?_)
  refine AtC.seqR ?_
  refine AtL.pures hT 1 _ _ _ _ rfl ?_
  refine AtL.e rfl (EffX.call (f := 68) (sh := fun h => ratio_one h _) (H0 := H) rfl Tryz.call68 rfl (hl := fun w m hr hw => lift_ratio_one  w m hr _ hw)) ?_
  rintro _ _ ⟨v, h0, rfl, rfl, H⟩
  refine AtL.e rfl (EffX.call (f := 85) (sh := fun h => slices_Equal_api_Nat_uint32 _ _ h _) (H0 := H) rfl Tryz.call85 rfl (hl := fun w m hr hw => lift_slices_Equal_api_Nat_uint32 _ _ w m hr _ hw)) ?_
  rintro _ _ ⟨v_1, h0u1, rfl, rfl, H⟩
  refine AtL.pures hT 1 _ _ _ _ rfl ?_
  refine AtL.nil ?_
  refine AtE.then_n (AtE.go ?_)
  refine AtC.ret ?_
  exact AtE.retN (rs := [.tmp 2]) rfl (ResAll.cons (ResAt.tmp rfl) ResAll.nil) rfl H

theorem lift_ratio_form (neg : Bool) (num : Sl) (d : Sl) (w : World) (m : Heap) (hr : Rel ⟨m, []⟩ w.heap) (S : (Bool × Sl × Sl) → Heap → Prop) (H : ratio_form neg num d m S) :
    Calls Tryz.prog 40 #[Value.bool neg, Sl.toV num, Sl.toV d] w (Post ⟨w, m⟩ (fun r => Value.agg (C_bool_sl_sl r).toArray) S) := by
  refine Calls.lift (args := [Value.bool neg, Sl.toV num, Sl.toV d]) Tryz.func40 rfl Tryz.ntmps40 (Nat.le_of_ble_eq_true rfl) hr (ratio_form neg num d m S) H (fun H => ?_)
  refine AtC.pick (ts := [0, 1, 2]) rfl ?_
  unfold ratio_form at H
  refine AtC.seqR ?_
  refine AtL.e rfl (EffX.allocP (cs := [_, _, _]) hT rfl rfl H) ?_
  rintro _ _ ⟨b, _, rfl, rfl, _, H⟩
  refine AtL.nil ?_
  replace H := H.self
  refine AtE.then_n (AtE.go ?_)
  refine AtC.seqR ?_
  refine AtL.e rfl (EffX.call (f := 41) (sh := fun h => ratio_free h _) (H0 := H) rfl Tryz.call41 rfl (hl := fun w m hr hw => lift_ratio_free  w m hr _ hw)) ?_
  rintro _ _ ⟨v, h0u1, rfl, rfl, H⟩
  refine AtL.pures hT 1 _ _ _ _ rfl ?_
  refine AtL.nil ?_
  refine AtE.then_n (AtE.go ?_)
  refine AtC.seqR ?_
  refine AtL.pures hT 3 _ _ _ _ rfl ?_
  refine AtL.e rfl (EffX.call (f := 62) (sh := fun h => nat_Bench_Gcd _ _ _ h _) (H0 := H) rfl Tryz.call62 rfl (hl := fun w m hr hw => lift_nat_Bench_Gcd _ _ _ w m hr _ hw)) ?_
  rintro _ _ ⟨v_1, h0u2, rfl, rfl, H⟩
  refine AtL.pures hT 1 _ _ _ _ rfl ?_
  refine AtL.nil ?_
  refine AtE.then_n (AtE.go ?_)
  refine AtC.seqR ?_
  refine AtL.pures hT 3 _ _ _ _ rfl ?_
  refine AtL.e rfl (EffX.call (f := 63) (sh := fun h => nat_Bench_Div _ _ _ h _) (H0 := H) rfl Tryz.call63 rfl (hl := fun w m hr hw => lift_nat_Bench_Div _ _ _ w m hr _ hw)) ?_
  rintro _ _ ⟨v_2, h0u3, rfl, rfl, H⟩
  refine AtL.pures hT 4 _ _ _ _ rfl ?_
  refine AtL.nil ?_
  refine AtE.then_n (AtE.go ?_)
  refine AtC.seqR ?_
  refine AtL.pures hT 3 _ _ _ _ rfl ?_
  refine AtL.e rfl (EffX.call (f := 63) (sh := fun h => nat_Bench_Div _ _ _ h _) (H0 := H) rfl Tryz.call63 rfl (hl := fun w m hr hw => lift_nat_Bench_Div _ _ _ w m hr _ hw)) ?_
  rintro _ _ ⟨v_3, h0u4, rfl, rfl, H⟩
  refine AtL.pures hT 4 _ _ _ _ rfl ?_
  refine AtL.nil ?_
  refine AtE.then_n (AtE.go ?_)
  refine AtC.joinSeq (β := Unit) (fun (t0 : Sl) (bb : Unit) => [(2, Sl.toV t0)]) (fun (t0 : Sl) (bb : Unit) => []) [0, 1, 6] [0] H (by exact rfl) (by exact rfl) (fun t0 bb h0u5 H => ?_) (fun J1 H HK1 => ?_)
  ·
   refine AtC.seq ?_
   refine AtC.seqR ?_
   refine AtL.pures hT 3 _ _ _ _ rfl ?_
   refine AtL.nil ?_
   refine AtE.then_n (AtE.go ?_)
   refine AtC.condB H rfl (fun H => ?_) (fun H => ?_)
   ·
    refine AtC.seqR ?_
    refine AtL.q rfl (Quiet1.build (cs := [_, _, _]) hT rfl rfl rfl rfl rfl rfl) ?_
    refine AtL.e rfl (EffX.storeSP (i := 0) (qv := [(_, [_, _, _])]) hT rfl rfl rfl rfl rfl rfl rfl rfl rfl rfl) ?_
    rintro _ _ rfl
    refine AtL.nil ?_
    refine AtE.then_n (AtE.go ?_)
    refine AtC.ret ?_
    refine AtE.then_r ?_
    exact AtE.retN (rs := [.cell 6 27]) rfl (ResAll.cons (ResAt.cellSP (i := 0) (l := [_, _, _]) hT rfl rfl rfl rfl rfl rfl rfl) ResAll.nil) rfl H
   ·
    refine AtC.skip ?_
    refine AtE.then_n (AtE.go ?_)
    refine AtC.seqR ?_
    refine AtL.pures hT 2 _ _ _ _ rfl ?_
    refine AtL.q rfl (Quiet1.build (cs := [_, _]) hT rfl rfl rfl rfl rfl rfl) ?_
    refine AtL.pures hT 1 _ _ _ _ rfl ?_
    refine AtL.q rfl (Quiet1.build (cs := [_, _, _]) hT rfl rfl rfl rfl rfl rfl) ?_
    refine AtL.e rfl (EffX.storeSP (i := 0) (qv := [(_, [_, _, _])]) hT rfl rfl rfl rfl rfl rfl rfl rfl rfl rfl) ?_
    rintro _ _ rfl
    refine AtL.nil ?_
    refine AtE.then_n (AtE.go ?_)
    refine AtC.ret ?_
    exact AtE.retN (rs := [.cell 6 27]) rfl (ResAll.cons (ResAt.cellSP (i := 0) (l := [_, _, _]) hT rfl rfl rfl rfl rfl rfl rfl) ResAll.nil) rfl H
  ·
   refine AtC.seqR ?_
   refine AtL.pures hT 1 _ _ _ _ rfl ?_
   refine AtL.e rfl (EffX.call (f := 64) (sh := fun h => ratio_isOne _ h _) (H0 := H) rfl Tryz.call64 rfl (hl := fun w m hr hw => lift_ratio_isOne _ w m hr _ hw)) ?_
   rintro _ _ ⟨v_4, h0u6, rfl, rfl, H⟩
   refine AtL.nil ?_
   refine AtE.then_n (AtE.go ?_)
   refine AtC.condB H rfl (fun H => ?_) (fun H => ?_)
   ·
    refine AtC.region ?_
    refine AtL.pures hT 1 _ _ _ _ rfl ?_
    refine AtL.nil ?_
    exact AtE.then_n ((HK1 _ () _ H).pickP (ts := [2, 0, 1, 6]) (is := [0]) rfl rfl (by decide) rfl)
   ·
    refine AtC.skip ?_
    exact AtE.then_n ((HK1 _ () _ H).pickP (ts := [2, 0, 1, 6]) (is := [0]) rfl rfl (by decide) rfl)

theorem lift_ratio_fit (b : (Option Addr)) (x0 : Bool × Sl × Sl) (w : World) (m : Heap) (hr : Rel ⟨m, []⟩ w.heap) (S : (Bool × Sl × Sl) → Heap → Prop) (H : ratio_fit b x0 m S) :
    Calls Tryz.prog 39 #[Value.pointer b, Value.agg (C_bool_sl_sl x0).toArray] w (Post ⟨w, m⟩ (fun r => Value.agg (C_bool_sl_sl r).toArray) S) := by
  refine Calls.lift (args := [Value.pointer b, Value.agg (C_bool_sl_sl x0).toArray]) Tryz.func39 rfl Tryz.ntmps39 (Nat.le_of_ble_eq_true rfl) hr (ratio_fit b x0 m S) H (fun H => ?_)
  refine AtC.pick (ts := [0, 1]) rfl ?_
  unfold ratio_fit at H
  refine AtC.seqR ?_
  refine AtL.e rfl (EffX.boxP (cs := [_, _, _]) rfl rfl rfl H) ?_
  rintro _ _ ⟨b_1, _, rfl, rfl, _, H⟩
  refine AtL.e rfl (EffX.allocP (cs := [_, _, _]) hT rfl rfl H) ?_
  rintro _ _ ⟨b_2, _, rfl, rfl, _, H⟩
  refine AtL.nil ?_
  replace H := H.self
  refine AtE.then_n (AtE.go ?_)
  refine AtC.seqR ?_
  refine AtL.pures hT 3 _ _ _ _ rfl ?_
  refine AtL.q rfl (Quiet1.loadP (i := 1) hT rfl rfl rfl rfl rfl rfl) ?_
  refine AtL.e rfl (EffX.call (f := 58) (sh := fun h => nat_Bench_Add _ _ _ h _) (H0 := H) rfl Tryz.call58 rfl (hl := fun w m hr hw => lift_nat_Bench_Add _ _ _ w m hr _ hw)) ?_
  rintro _ _ ⟨v, h0u1, rfl, rfl, H⟩
  refine AtL.nil ?_
  refine AtE.then_n (AtE.go ?_)
  refine AtC.seqR ?_
  refine AtL.pures hT 2 _ _ _ _ rfl ?_
  refine AtL.q rfl (Quiet1.loadP (i := 1) hT rfl rfl rfl rfl rfl rfl) ?_
  refine AtL.e rfl (EffX.call (f := 58) (sh := fun h => nat_Bench_Add _ _ _ h _) (H0 := H) rfl Tryz.call58 rfl (hl := fun w m hr hw => lift_nat_Bench_Add _ _ _ w m hr _ hw)) ?_
  rintro _ _ ⟨v_1, h0u2, rfl, rfl, H⟩
  refine AtL.nil ?_
  refine AtE.then_n (AtE.go ?_)
  refine AtC.seq ?_
  refine AtC.seqR ?_
  refine AtL.pures hT 1 _ _ _ _ rfl ?_
  refine AtL.e rfl (EffX.call (f := 36) (sh := fun h => nat_Bench_Over _ h _) (H0 := H) rfl Tryz.call36 rfl (hl := fun w m hr hw => lift_nat_Bench_Over _ w m hr _ hw)) ?_
  rintro _ _ ⟨v_2, h0u3, rfl, rfl, H⟩
  refine AtL.nil ?_
  refine AtE.then_n (AtE.go ?_)
  refine AtC.condB H rfl (fun H => ?_) (fun H => ?_)
  ·
   refine AtC.seqR ?_
   refine AtL.q rfl (Quiet1.build (cs := [_, _, _]) hT rfl rfl rfl rfl rfl rfl) ?_
   refine AtL.e rfl (EffX.storeSP (i := 0) (qv := [(_, [_, _, _]), (_, [_, _, _])]) hT rfl rfl rfl rfl rfl rfl rfl rfl rfl rfl) ?_
   rintro _ _ rfl
   refine AtL.nil ?_
   refine AtE.then_n (AtE.go ?_)
   refine AtC.ret ?_
   refine AtE.then_r ?_
   exact AtE.retN (rs := [.cell 4 27]) rfl (ResAll.cons (ResAt.cellSP (i := 0) (l := [_, _, _]) hT rfl rfl rfl rfl rfl rfl rfl) ResAll.nil) rfl H
  ·
   refine AtC.skip ?_
   refine AtE.then_n (AtE.go ?_)
   refine AtC.seqR ?_
   refine AtL.q rfl (Quiet1.loadSP (i := 1) (l := [_, _, _]) hT rfl rfl rfl rfl rfl rfl rfl rfl) ?_
   refine AtL.e rfl (EffX.storeSP (i := 0) (qv := [(_, [_, _, _]), (_, [_, _, _])]) hT rfl rfl rfl rfl rfl rfl rfl rfl rfl rfl) ?_
   rintro _ _ rfl
   refine AtL.nil ?_
   refine AtE.then_n (AtE.go ?_)
   refine AtC.ret ?_
   exact AtE.retN (rs := [.cell 4 27]) rfl (ResAll.cons (ResAt.cellSP (i := 0) (l := [_, _, _]) hT rfl rfl rfl rfl rfl rfl rfl) ResAll.nil) rfl H

theorem lift_ratio_Decimal (b : (Option Addr)) (s0 : ByteArray) (w : World) (m : Heap) (hr : Rel ⟨m, []⟩ w.heap) (S : ((Bool × Sl × Sl) × Bool) → Heap → Prop) (H : ratio_Decimal b s0 m S) :
    Calls Tryz.prog 32 #[Value.pointer b, Value.string s0] w (Post ⟨w, m⟩ (fun r => Value.tuple #[(fun r => Value.agg (C_bool_sl_sl r).toArray) r.1, Value.bool r.2]) S) := by
  refine Calls.lift (args := [Value.pointer b, Value.string s0]) Tryz.func32 rfl Tryz.ntmps32 (Nat.le_of_ble_eq_true rfl) hr (ratio_Decimal b s0 m S) H (fun H => ?_)
  refine AtC.pick (ts := [0, 1]) rfl ?_
  unfold ratio_Decimal at H
  refine AtC.seqR ?_
  refine AtL.e rfl (EffX.allocP (cs := [_, _, _]) hT rfl rfl H) ?_
  rintro _ _ ⟨b_1, _, rfl, rfl, _, H⟩
  replace H := H.self
  refine AtL.pures hT 1 _ _ _ _ rfl ?_
  refine AtL.nil ?_
  refine AtE.then_n (AtE.go ?_)
  refine AtC.seqR ?_
  refine AtL.pures hT 1 _ _ _ _ rfl ?_
  refine AtL.e rfl (EffX.call (f := 54) (sh := fun h => strings_Cut _ _ h _) (H0 := H) rfl Tryz.call54 rfl (hl := fun w m hr hw => lift_strings_Cut _ _ w m hr _ hw)) ?_
  rintro _ _ ⟨v, h0u1, rfl, rfl, H⟩
  refine AtL.pures hT 7 _ _ _ _ rfl ?_
  refine AtL.nil ?_
  refine AtE.then_n (AtE.go ?_)
  refine AtC.seq ?_
  refine AtC.joinSeq (β := Unit) (fun (t0 : Bool) (bb : Unit) => [(38, Value.bool t0)]) (fun (t0 : Bool) (bb : Unit) => []) [0, 4, 6, 7] [0] H (by exact rfl) (by exact rfl) (fun t0 bb h0u2 H => ?_) (fun J1 H HK1 => ?_)
  ·
   refine AtC.condB H rfl (fun H => ?_) (fun H => ?_)
   ·
    refine AtC.seqR ?_
    refine AtL.q rfl (Quiet1.build (cs := [_, _, _]) hT rfl rfl rfl rfl rfl rfl) ?_
    refine AtL.e rfl (EffX.storeSP (i := 0) (qv := [(_, [_, _, _])]) hT rfl rfl rfl rfl rfl rfl rfl rfl rfl rfl) ?_
    rintro _ _ rfl
    refine AtL.pures hT 1 _ _ _ _ rfl ?_
    refine AtL.nil ?_
    refine AtE.then_n (AtE.go ?_)
    refine AtC.ret ?_
    refine AtE.then_r ?_
    exact AtE.retN (rs := [.cell 4 27, .tmp 5]) rfl (ResAll.cons (ResAt.cellSP (i := 0) (l := [_, _, _]) hT rfl rfl rfl rfl rfl rfl rfl) (ResAll.cons (ResAt.tmp rfl) ResAll.nil)) rfl H
   ·
    refine AtC.skip ?_
    refine AtE.then_n (AtE.go ?_)
    refine AtC.seqR ?_
    refine AtL.e rfl (EffX.call (f := 41) (sh := fun h => ratio_free h _) (H0 := H) rfl Tryz.call41 rfl (hl := fun w m hr hw => lift_ratio_free  w m hr _ hw)) ?_
    rintro _ _ ⟨v_2, h0u4, rfl, rfl, H⟩
    refine AtL.pures hT 1 _ _ _ _ rfl ?_
    refine AtL.nil ?_
    refine AtE.then_n (AtE.go ?_)
    refine AtC.seqR ?_
    refine AtL.pures hT 3 _ _ _ _ rfl ?_
    obtain ⟨hd1, H⟩ := H
    refine AtL.q rfl (Quiet1.concat rfl rfl rfl hd1) ?_
    refine AtL.e rfl (EffX.call (f := 55) (sh := fun h => nat_Bench_Parse _ _ h _) (H0 := H) rfl Tryz.call55 rfl (hl := fun w m hr hw => lift_nat_Bench_Parse _ _ w m hr _ hw)) ?_
    rintro _ _ ⟨v_3, h0u5, rfl, rfl, H⟩
    refine AtL.pures hT 5 _ _ _ _ rfl ?_
    refine AtL.nil ?_
    refine AtE.then_n (AtE.go ?_)
    refine AtC.seq ?_
    refine AtC.seqR ?_
    refine AtL.pures hT 2 _ _ _ _ rfl ?_
    refine AtL.nil ?_
    refine AtE.then_n (AtE.go ?_)
    refine AtC.condB H rfl (fun H => ?_) (fun H => ?_)
    ·
     refine AtC.seqR ?_
     refine AtL.q rfl (Quiet1.build (cs := [_, _, _]) hT rfl rfl rfl rfl rfl rfl) ?_
     refine AtL.e rfl (EffX.storeSP (i := 0) (qv := [(_, [_, _, _])]) hT rfl rfl rfl rfl rfl rfl rfl rfl rfl rfl) ?_
     rintro _ _ rfl
     refine AtL.pures hT 1 _ _ _ _ rfl ?_
     refine AtL.nil ?_
     refine AtE.then_n (AtE.go ?_)
     refine AtC.ret ?_
     refine AtE.then_r ?_
     exact AtE.retN (rs := [.cell 4 27, .tmp 5]) rfl (ResAll.cons (ResAt.cellSP (i := 0) (l := [_, _, _]) hT rfl rfl rfl rfl rfl rfl rfl) (ResAll.cons (ResAt.tmp rfl) ResAll.nil)) rfl H
    ·
     refine AtC.skip ?_
     refine AtE.then_n (AtE.go ?_)
     refine AtC.seqR ?_
     refine AtL.pures hT 3 _ _ _ _ rfl ?_
     refine AtL.e rfl (EffX.call (f := 56) (sh := fun h => strings_Repeat _ _ h _) (H0 := H) rfl Tryz.call56 rfl (hl := fun w m hr hw => lift_strings_Repeat _ _ w m hr _ hw)) ?_
     rintro _ _ ⟨v_4, h0u6, rfl, rfl, H⟩
     obtain ⟨hd2, H⟩ := H
     refine AtL.q rfl (Quiet1.concat rfl rfl rfl hd2) ?_
     refine AtL.e rfl (EffX.call (f := 55) (sh := fun h => nat_Bench_Parse _ _ h _) (H0 := H) rfl Tryz.call55 rfl (hl := fun w m hr hw => lift_nat_Bench_Parse _ _ w m hr _ hw)) ?_
     rintro _ _ ⟨v_5, h0u7, rfl, rfl, H⟩
     refine AtL.pures hT 5 _ _ _ _ rfl ?_
     refine AtL.nil ?_
     refine AtE.then_n (AtE.go ?_)
     refine AtC.seqR ?_
     refine AtL.pures hT 3 _ _ _ _ rfl ?_
     refine AtL.e rfl (EffX.call (f := 40) (sh := fun h => ratio_form _ _ _ h _) (H0 := H) rfl Tryz.call40 rfl (hl := fun w m hr hw => lift_ratio_form _ _ _ w m hr _ hw)) ?_
     rintro _ _ ⟨v_6, h0u8, rfl, rfl, H⟩
     refine AtL.e rfl (EffX.call (f := 39) (sh := fun h => ratio_fit _ _ h _) (H0 := H) rfl Tryz.call39 rfl (hl := fun w m hr hw => lift_ratio_fit _ _ w m hr _ hw)) ?_
     rintro _ _ ⟨v_7, h0u9, rfl, rfl, H⟩
     refine AtL.e rfl (EffX.allocP (cs := [_, _, _]) hT rfl rfl H) ?_
     rintro _ _ ⟨b_2, _, rfl, rfl, _, H⟩
     replace H := H.self
     refine AtL.e rfl (EffX.storeSP (i := 0) (qv := [(_, [_, _, _]), (_, [_, _, _])]) hT rfl rfl rfl rfl rfl rfl rfl rfl rfl rfl) ?_
     rintro _ _ rfl
     refine AtL.nil ?_
     refine AtE.then_n (AtE.go ?_)
     apply AtC.seqS [2, 4] [[], [], [], [2], [2], [2, 4]] [[], [], [1], [1, 2], [0, 1, 2], [0, 1, 2, 3, 4]] hmix (by kernel_rfl) [(66, _), (67, _)] rfl 2 rfl
     refine Stg.go [0, 1] [2] rfl rfl (QAll.cons (QOp.q rfl rfl (Quiet1.loadSP (i := 0) (l := [_, _, _]) hT rfl rfl rfl rfl rfl rfl rfl rfl) rfl rfl) (QAll.cons (QOp.p hT rfl rfl rfl rfl rfl) QAll.nil)) ?_
     refine EAll.cons ?_ EAll.nil
     refine EOp.e rfl rfl rfl (EffX.call (f := 36) (sh := fun h => nat_Bench_Over _ h _) (H0 := H) rfl Tryz.call36 rfl (hl := fun w m hr hw => lift_nat_Bench_Over _ w m hr _ hw)) ?_
     rintro _ _ ⟨v_8, h0u11, rfl, rfl, H⟩
     apply Stg.next [(68, _), (69, _)] rfl rfl
     refine Stg.go [0, 3] [4] rfl rfl (QAll.cons (QOp.q rfl rfl (Quiet1.loadSP (i := 0) (l := [_, _, _]) hT rfl rfl rfl rfl rfl rfl rfl rfl) rfl rfl) (QAll.cons (QOp.p hT rfl rfl rfl rfl rfl) QAll.nil)) ?_
     refine EAll.cons ?_ EAll.nil
     refine EOp.e rfl rfl rfl (EffX.storeSP (i := 1) (qv := [(_, [_, _, _]), (_, [_, _, _])]) hT rfl rfl rfl rfl rfl rfl rfl rfl rfl rfl) ?_
     rintro _ _ rfl
     apply Stg.next [(5, _)] rfl rfl
     refine Stg.fin [3, 5] rfl rfl (QAll.cons (QOp.p hT rfl rfl rfl rfl rfl) (QAll.cons (QOp.p hT rfl rfl rfl rfl rfl) QAll.nil)) ?_
     refine AtE.then_n (AtE.go ?_)
     refine AtC.ret ?_
     exact AtE.retN (rs := [.cell 4 27, .tmp 5]) rfl (ResAll.cons (ResAt.cellSP (i := 1) (l := [_, _, _]) hT rfl rfl rfl rfl rfl rfl rfl) (ResAll.cons (ResAt.tmp rfl) ResAll.nil)) rfl H
  ·
   refine AtC.region ?_
   refine AtL.pures hT 4 _ _ _ _ rfl ?_
   refine AtL.splitB (t := 24) H rfl (fun H => ?_) (fun H => ?_)
   ·
    refine AtL.noF rfl rfl rfl (by decide) rfl ?_
    refine AtL.noF rfl rfl rfl (by decide) rfl ?_
    refine AtL.pures hT 2 _ _ _ _ rfl ?_
    refine AtL.noF rfl rfl rfl (by decide) rfl ?_
    refine AtL.noF rfl rfl rfl (by decide) rfl ?_
    refine AtL.pures hT 2 _ _ _ _ rfl ?_
    refine AtL.noF rfl rfl rfl (by decide) rfl ?_
    refine AtL.noF rfl rfl rfl (by decide) rfl ?_
    refine AtL.noU rfl rfl rfl rfl ?_
    refine AtL.noU rfl rfl rfl rfl ?_
    refine AtL.noF rfl rfl rfl (by decide) rfl ?_
    refine AtL.pures hT 1 _ _ _ _ rfl ?_
    refine AtL.nil ?_
    exact AtE.then_n ((HK1 _ () _ H).pickP (ts := [38, 0, 4, 6, 7]) (is := [0]) rfl rfl (by decide) rfl)
   ·
    refine AtL.yes rfl rfl rfl ?_
    refine AtL.pures hT 1 _ _ _ _ rfl ?_
    refine AtL.yes rfl rfl rfl ?_
    refine AtL.e rfl (EffX.call (f := 36) (sh := fun h => nat_Bench_Over _ h _) (H0 := H) rfl Tryz.call36 rfl (hl := fun w m hr hw => lift_nat_Bench_Over _ w m hr _ hw)) ?_
    rintro _ _ ⟨v_1, h0u3, rfl, rfl, H⟩
    refine AtL.pures hT 2 _ _ _ _ rfl ?_
    refine AtL.splitB (t := 28) H rfl (fun H => ?_) (fun H => ?_)
    ·
     refine AtL.noF rfl rfl rfl (by decide) rfl ?_
     refine AtL.noF rfl rfl rfl (by decide) rfl ?_
     refine AtL.pures hT 2 _ _ _ _ rfl ?_
     refine AtL.noF rfl rfl rfl (by decide) rfl ?_
     refine AtL.noF rfl rfl rfl (by decide) rfl ?_
     refine AtL.noU rfl rfl rfl rfl ?_
     refine AtL.noU rfl rfl rfl rfl ?_
     refine AtL.noF rfl rfl rfl (by decide) rfl ?_
     refine AtL.pures hT 1 _ _ _ _ rfl ?_
     refine AtL.nil ?_
     exact AtE.then_n ((HK1 _ () _ H).pickP (ts := [38, 0, 4, 6, 7]) (is := [0]) rfl rfl (by decide) rfl)
    ·
     refine AtL.yes rfl rfl rfl ?_
     refine AtL.pures hT 1 _ _ _ _ rfl ?_
     refine AtL.yes rfl rfl rfl ?_
     refine AtL.pures hT 1 _ _ _ _ rfl ?_
     refine AtL.pures hT 2 _ _ _ _ rfl ?_
     refine AtL.splitB (t := 32) H rfl (fun H => ?_) (fun H => ?_)
     ·
      refine AtL.noF rfl rfl rfl (by decide) rfl ?_
      refine AtL.noF rfl rfl rfl (by decide) rfl ?_
      refine AtL.noU rfl rfl rfl rfl ?_
      refine AtL.noU rfl rfl rfl rfl ?_
      refine AtL.noF rfl rfl rfl (by decide) rfl ?_
      refine AtL.pures hT 1 _ _ _ _ rfl ?_
      refine AtL.nil ?_
      exact AtE.then_n ((HK1 _ () _ H).pickP (ts := [38, 0, 4, 6, 7]) (is := [0]) rfl rfl (by decide) rfl)
     ·
      refine AtL.yes rfl rfl rfl ?_
      refine AtL.pures hT 1 _ _ _ _ rfl ?_
      refine AtL.yes rfl rfl rfl ?_
      refine AtL.pures hT 1 _ _ _ _ rfl ?_
      refine AtL.splitB (t := 34) H rfl (fun H => ?_) (fun H => ?_)
      ·
       refine AtL.yes rfl rfl rfl ?_
       refine AtL.pures hT 1 _ _ _ _ rfl ?_
       refine AtL.yes rfl rfl rfl ?_
       refine AtL.pures hT 1 _ _ _ _ rfl ?_
       refine AtL.yes rfl rfl rfl ?_
       refine AtL.pures hT 1 _ _ _ _ rfl ?_
       refine AtL.pures hT 1 _ _ _ _ rfl ?_
       refine AtL.nil ?_
       exact AtE.then_n ((HK1 _ () _ H).pickP (ts := [38, 0, 4, 6, 7]) (is := [0]) rfl rfl (by decide) rfl)
      ·
       refine AtL.noF rfl rfl rfl (by decide) rfl ?_
       refine AtL.noF rfl rfl rfl (by decide) rfl ?_
       refine AtL.yes rfl rfl rfl ?_
       refine AtL.pures hT 1 _ _ _ _ rfl ?_
       refine AtL.pures hT 1 _ _ _ _ rfl ?_
       refine AtL.nil ?_
       exact AtE.then_n ((HK1 _ () _ H).pickP (ts := [38, 0, 4, 6, 7]) (is := [0]) rfl rfl (by decide) rfl)

theorem lift_slices_Reverse_byte_byte (s0 : Sl) (w : World) (m : Heap) (hr : Rel ⟨m, []⟩ w.heap) (S : Unit → Heap → Prop) (H : slices_Reverse_byte_byte s0 m S) :
    Calls Tryz.prog 73 #[Sl.toV s0] w (Post ⟨w, m⟩ (fun _ => Value.tuple #[]) S) := by
  refine Calls.lift (args := [Sl.toV s0]) Tryz.func73 rfl Tryz.ntmps73 (Nat.le_of_ble_eq_true rfl) hr (slices_Reverse_byte_byte s0 m S) H (fun H => ?_)
  refine AtC.pick (ts := [0]) rfl ?_
  unfold slices_Reverse_byte_byte at H
  refine AtC.seqR ?_
  refine AtL.pures hT 5 _ _ _ _ rfl ?_
  replace H := H _ rfl
  refine AtL.nil ?_
  refine AtE.then_n (AtE.go ?_)
  refine AtC.block ?_
  refine AtC.loopM (fun (s0u1 : Int × Int) => [(2, Value.int .i64 s0u1.1), (3, Value.int .i64 s0u1.2)]) (fun (s0u1 : Int × Int) => []) [0] [2, 3, 0] [] [] H (by exact rfl) (by exact rfl) (by exact rfl) (by decide) (by exact rfl) (fun Kp1 s0u1 h0 H Q1 HK1 => ?_)
  refine AtC.seq ?_
  refine AtC.seqR ?_
  refine AtL.pures hT 3 _ _ _ _ rfl ?_
  refine AtL.nil ?_
  refine AtE.then_n (AtE.go ?_)
  refine AtC.condB H rfl (fun H => ?_) (fun H => ?_)
  ·
   refine AtC.skip ?_
   refine AtE.then_n (AtE.go ?_)
   refine AtC.seq ?_
   refine AtC.block ?_
   obtain ⟨a_, hc1, hd1, H⟩ := H
   obtain ⟨v, hc2, H⟩ := H
   obtain ⟨a_1_, hc3, hd3, H⟩ := H
   obtain ⟨v_1, hc4, H⟩ := H
   obtain ⟨a_2_, hc5, hd5, H⟩ := H
   apply AtC.stages [13, 15] [[], [], [], [], [], [], [], [], [], [], [], [], [], [], [13], [13]] [[], [], [], [], [], [], [4, 5], [4, 5, 6], [], [], [8, 9], [8, 9, 10], [0, 1, 4, 5, 6, 7, 8, 9, 10, 11], [0, 1, 4, 5, 6, 7, 8, 9, 10, 11, 12], [0, 1, 2, 3, 4, 5, 6, 7, 8, 9, 10, 11, 12, 13], [0, 1, 2, 3, 4, 5, 6, 7, 8, 9, 10, 11, 12, 13, 14]] hmix (by kernel_rfl) [(14, _), (15, _), (16, _), (17, _), (18, _), (19, _), (20, _), (21, _), (22, _), (23, _), (24, _), (25, _), (26, _)] rfl 2 rfl
   refine Stg.go [0, 1, 2, 3, 4, 5, 6, 7, 8, 9, 10, 11, 12] [13] rfl rfl (QAll.cons (QOp.p hT rfl rfl rfl rfl rfl) (QAll.cons (QOp.p hT rfl rfl rfl rfl rfl) (QAll.cons (QOp.p hT rfl rfl rfl rfl rfl) (QAll.cons (QOp.p hT rfl rfl rfl rfl rfl) (QAll.cons (QOp.p hT rfl rfl rfl rfl rfl) (QAll.cons (QOp.p hT rfl rfl rfl rfl rfl) (QAll.cons (QOp.q rfl rfl (Quiet1.idxS (s := _) hT rfl rfl rfl rfl rfl hc1 hd1) rfl rfl) (QAll.cons (QOp.q rfl rfl (Quiet1.load hT rfl rfl rfl hc2) rfl rfl) (QAll.cons (QOp.p hT rfl rfl rfl rfl rfl) (QAll.cons (QOp.p hT rfl rfl rfl rfl rfl) (QAll.cons (QOp.q rfl rfl (Quiet1.idxS (s := _) hT rfl rfl rfl rfl rfl hc3 hd3) rfl rfl) (QAll.cons (QOp.q rfl rfl (Quiet1.load hT rfl rfl rfl hc4) rfl rfl) (QAll.cons (QOp.q rfl rfl (Quiet1.idxS (s := _) hT rfl rfl rfl rfl rfl hc5 hd5) rfl rfl) QAll.nil))))))))))))) ?_
   refine EAll.cons ?_ EAll.nil
   refine EOp.e rfl rfl rfl (EffX.store hT rfl rfl rfl rfl rfl H) ?_
   rintro _ _ ⟨h0u1, rfl, H⟩
   obtain ⟨a_3_, hc6, hd6, H⟩ := H
   apply Stg.next [(27, _)] rfl rfl
   refine Stg.go [2, 3, 14] [15] rfl rfl (QAll.cons (QOp.p hT rfl rfl rfl rfl rfl) (QAll.cons (QOp.p hT rfl rfl rfl rfl rfl) (QAll.cons (QOp.q rfl rfl (Quiet1.idxS (s := _) hT rfl rfl rfl rfl rfl hc6 hd6) rfl rfl) QAll.nil))) ?_
   refine EAll.cons ?_ EAll.nil
   refine EOp.e rfl rfl rfl (EffX.store hT rfl rfl rfl rfl rfl H) ?_
   rintro _ _ ⟨h0u2, rfl, H⟩
   apply Stg.next [] rfl rfl
   refine Stg.fin [] rfl rfl QAll.nil ?_
   refine AtE.blk_n ?_
   refine AtE.then_n (AtE.go ?_)
   refine AtC.region ?_
   refine AtL.pures hT 6 _ _ _ _ rfl ?_
   replace H := H _ rfl
   replace H := H _ rfl
   refine AtL.nil ?_
   exact AtE.then_n ((HK1 _ _ H).pickP (ts := [2, 3, 0]) (is := []) rfl rfl (by decide) rfl)
  ·
   refine AtC.exit ?_
   refine AtE.then_x ?_
   refine AtE.then_x ?_
   refine AtE.blk_hit ?_
   exact AtE.endN rfl rfl H

theorem lift_nat_Text (x0 : Sl) (w : World) (m : Heap) (hr : Rel ⟨m, []⟩ w.heap) (S : ByteArray → Heap → Prop) (H : nat_Text x0 m S) :
    Calls Tryz.prog 52 #[Sl.toV x0] w (Post ⟨w, m⟩ Value.string S) := by
  refine Calls.lift (args := [Sl.toV x0]) Tryz.func52 rfl Tryz.ntmps52 (Nat.le_of_ble_eq_true rfl) hr (nat_Text x0 m S) H (fun H => ?_)
  refine AtC.pick (ts := [0]) rfl ?_
  unfold nat_Text at H
  refine AtC.seqR ?_
  refine AtL.pures hT 1 _ _ _ _ rfl ?_
  refine AtL.nil ?_
  refine AtE.then_n (AtE.go ?_)
  refine AtC.seqR ?_
  refine AtL.pures hT 1 _ _ _ _ rfl ?_
  refine AtL.nil ?_
  refine AtE.then_n (AtE.go ?_)
  refine AtC.seq ?_
  refine AtC.seqR ?_
  refine AtL.pures hT 1 _ _ _ _ rfl ?_
  refine AtL.e rfl (EffX.call (f := 67) (sh := fun h => nat_trim _ h _) (H0 := H) rfl Tryz.call67 rfl (hl := fun w m hr hw => lift_nat_trim _ w m hr _ hw)) ?_
  rintro _ _ ⟨v, h0, rfl, rfl, H⟩
  refine AtL.pures hT 1 _ _ _ _ rfl ?_
  refine AtL.nil ?_
  refine AtE.then_n (AtE.go ?_)
  refine AtC.block ?_
  refine AtC.loopM (fun (s0 : Sl × Sl) => [(0, Sl.toV s0.1), (3, Sl.toV s0.2)]) (fun (s0 : Sl × Sl) => []) [] [0, 3] [] [] H (by exact rfl) (by exact rfl) (by exact rfl) (by decide) (by exact rfl) (fun Kp1 s0 h0u1 H Q1 HK1 => ?_)
  refine AtC.seq ?_
  refine AtC.seqR ?_
  refine AtL.pures hT 3 _ _ _ _ rfl ?_
  refine AtL.nil ?_
  refine AtE.then_n (AtE.go ?_)
  refine AtC.condB H rfl (fun H => ?_) (fun H => ?_)
  ·
   refine AtC.skip ?_
   refine AtE.then_n (AtE.go ?_)
   refine AtC.block ?_
   refine AtC.seqR ?_
   refine AtL.pures hT 1 _ _ _ _ rfl ?_
   refine AtLX.bs (hT := hT) (cs := [_]) H rfl rfl rfl rfl rfl rfl rfl rfl rfl (fun a h0u2 H => ?_)
   refine AtL.e rfl (EffX.call (f := 71) (sh := fun h => nat_divide _ _ h _) (H0 := H) rfl Tryz.call71 rfl (hl := fun w m hr hw => lift_nat_divide _ _ w m hr _ hw)) ?_
   rintro _ _ ⟨v_2, h0u3, rfl, rfl, H⟩
   refine AtL.pures hT 5 _ _ _ _ rfl ?_
   refine AtL.nil ?_
   refine AtE.then_n (AtE.go ?_)
   refine AtC.seqR ?_
   refine AtL.pures hT 1 _ _ _ _ rfl ?_
   refine AtL.e rfl (EffX.call (f := 72) (sh := fun h => nat_small _ h _) (H0 := H) rfl Tryz.call72 rfl (hl := fun w m hr hw => lift_nat_small _ w m hr _ hw)) ?_
   rintro _ _ ⟨v_3, h0u4, rfl, rfl, H⟩
   refine AtL.pures hT 5 _ _ _ _ rfl ?_
   refine AtL.nil ?_
   refine AtE.then_n (AtE.go ?_)
   refine AtC.seq ?_
   refine AtC.seqR ?_
   refine AtL.pures hT 1 _ _ _ _ rfl ?_
   refine AtL.nil ?_
   refine AtE.then_n (AtE.go ?_)
   refine AtC.block ?_
   refine AtC.loopM (fun (s0u1 : Sl × Int × Int) => [(3, Sl.toV s0u1.1), (6, Value.int .u64 s0u1.2.1), (8, Value.int .i64 s0u1.2.2)]) (fun (s0u1 : Sl × Int × Int) => []) [4] [3, 6, 8, 4] [] [] H (by exact rfl) (by exact rfl) (by exact rfl) (by decide) (by exact rfl) (fun Kp2 s0u1 h0u5 H Q2 HK2 => ?_)
   refine AtC.seq ?_
   refine AtC.joinSeq (β := Unit) (fun (t0 : Bool) (bb : Unit) => [(35, Value.bool t0)]) (fun (t0 : Bool) (bb : Unit) => []) [3, 4, 6, 8] [] H (by exact rfl) (by exact rfl) (fun t0 bb h0u6 H => ?_) (fun J3 H HK3 => ?_)
   ·
    refine AtC.condB H rfl (fun H => ?_) (fun H => ?_)
    ·
     refine AtC.skip ?_
     refine AtE.then_n (AtE.go ?_)
     refine AtC.seq ?_
     refine AtC.block ?_
     refine AtC.seqR ?_
     refine AtL.pures hT 5 _ _ _ _ rfl ?_
     refine AtLX.bs (hT := hT) (cs := [_]) H rfl rfl rfl rfl rfl rfl rfl rfl rfl (fun a_1 h0u7 H => ?_)
     refine AtL.e rfl (EffX.appendS (s := _) (u := _) hT rfl rfl rfl rfl rfl rfl rfl rfl rfl rfl (by decide) H) ?_
     rintro _ _ ⟨v_5, h0u8, rfl, rfl, H⟩
     refine AtL.pures hT 1 _ _ _ _ rfl ?_
     refine AtL.nil ?_
     refine AtE.then_n (AtE.go ?_)
     refine AtC.region ?_
     refine AtL.pures hT 3 _ _ _ _ rfl ?_
     replace H := H _ rfl
     refine AtL.nil ?_
     refine AtE.blk_n ?_
     refine AtE.then_n (AtE.go ?_)
     refine AtC.region ?_
     refine AtL.pures hT 3 _ _ _ _ rfl ?_
     replace H := H _ rfl
     refine AtL.nil ?_
     exact AtE.then_n ((HK2 _ _ H).pickP (ts := [3, 6, 8, 4]) (is := []) rfl rfl (by decide) rfl)
    ·
     refine AtC.exit ?_
     refine AtE.then_x ?_
     refine AtE.then_x ?_
     refine AtE.blk_hit ?_
     refine AtE.then_n (AtE.go ?_)
     refine AtC.region ?_
     refine AtL.pures hT 2 _ _ _ _ rfl ?_
     refine AtL.nil ?_
     refine AtE.blk_n ?_
     exact AtE.then_n ((HK1 _ _ H).pickP (ts := [0, 3]) (is := []) rfl rfl (by decide) rfl)
   ·
    refine AtC.region ?_
    refine AtL.pures hT 3 _ _ _ _ rfl ?_
    refine AtL.splitB (t := 27) H rfl (fun H => ?_) (fun H => ?_)
    ·
     refine AtL.yes rfl rfl rfl ?_
     refine AtL.pures hT 1 _ _ _ _ rfl ?_
     refine AtL.yes rfl rfl rfl ?_
     refine AtL.pures hT 1 _ _ _ _ rfl ?_
     refine AtL.yes rfl rfl rfl ?_
     refine AtL.pures hT 1 _ _ _ _ rfl ?_
     refine AtL.yes rfl rfl rfl ?_
     refine AtL.pures hT 1 _ _ _ _ rfl ?_
     refine AtL.splitB (t := 31) H rfl (fun H => ?_) (fun H => ?_)
     ·
      refine AtL.noF rfl rfl rfl (by decide) rfl ?_
      refine AtL.noF rfl rfl rfl (by decide) rfl ?_
      refine AtL.yes rfl rfl rfl ?_
      refine AtL.pures hT 1 _ _ _ _ rfl ?_
      refine AtL.pures hT 1 _ _ _ _ rfl ?_
      refine AtL.nil ?_
      exact AtE.then_n ((HK3 _ () _ H).pickP (ts := [35, 3, 4, 6, 8]) (is := []) rfl rfl (by decide) rfl)
     ·
      refine AtL.yes rfl rfl rfl ?_
      refine AtL.pures hT 1 _ _ _ _ rfl ?_
      refine AtL.yes rfl rfl rfl ?_
      refine AtL.pures hT 1 _ _ _ _ rfl ?_
      refine AtL.yes rfl rfl rfl ?_
      refine AtL.pures hT 1 _ _ _ _ rfl ?_
      refine AtL.pures hT 1 _ _ _ _ rfl ?_
      refine AtL.nil ?_
      exact AtE.then_n ((HK3 _ () _ H).pickP (ts := [35, 3, 4, 6, 8]) (is := []) rfl rfl (by decide) rfl)
    ·
     refine AtL.noF rfl rfl rfl (by decide) rfl ?_
     refine AtL.noF rfl rfl rfl (by decide) rfl ?_
     refine AtL.noF rfl rfl rfl (by decide) rfl ?_
     refine AtL.noF rfl rfl rfl (by decide) rfl ?_
     refine AtL.noU rfl rfl rfl rfl ?_
     refine AtL.noU rfl rfl rfl rfl ?_
     refine AtL.noF rfl rfl rfl (by decide) rfl ?_
     refine AtL.pures hT 1 _ _ _ _ rfl ?_
     refine AtL.nil ?_
     exact AtE.then_n ((HK3 _ () _ H).pickP (ts := [35, 3, 4, 6, 8]) (is := []) rfl rfl (by decide) rfl)
  ·
   refine AtC.exit ?_
   refine AtE.then_x ?_
   refine AtE.then_x ?_
   refine AtE.blk_hit ?_
   refine AtE.then_n (AtE.go ?_)
   refine AtC.seq ?_
   refine AtC.seqR ?_
   refine AtL.pures hT 3 _ _ _ _ rfl ?_
   refine AtL.nil ?_
   refine AtE.then_n (AtE.go ?_)
   refine AtC.condB H rfl (fun H => ?_) (fun H => ?_)
   ·
    refine AtC.seqR ?_
    refine AtL.pures hT 1 _ _ _ _ rfl ?_
    refine AtL.nil ?_
    refine AtE.then_n (AtE.go ?_)
    refine AtC.ret ?_
    refine AtE.then_r ?_
    exact AtE.retN (rs := [.tmp 2]) rfl (ResAll.cons (ResAt.tmp rfl) ResAll.nil) rfl H
   ·
    refine AtC.skip ?_
    refine AtE.then_n (AtE.go ?_)
    refine AtC.seqR ?_
    refine AtL.pures hT 1 _ _ _ _ rfl ?_
    refine AtL.e rfl (EffX.call (f := 73) (sh := fun h => slices_Reverse_byte_byte _ h _) (H0 := H) rfl Tryz.call73 rfl (hl := fun w m hr hw => lift_slices_Reverse_byte_byte _ w m hr _ hw)) ?_
    rintro _ _ ⟨v_6, h0u9, rfl, rfl, H⟩
    refine AtL.nil ?_
    refine AtE.then_n (AtE.go ?_)
    refine AtC.seqR ?_
    refine AtL.pures hT 1 _ _ _ _ rfl ?_
    obtain ⟨v_7_, hc3, H⟩ := H
    refine AtL.q rfl (Quiet1.strOf (s := _) hT rfl rfl rfl rfl rfl hc3) ?_
    refine AtL.pures hT 1 _ _ _ _ rfl ?_
    refine AtL.nil ?_
    refine AtE.then_n (AtE.go ?_)
    refine AtC.ret ?_
    exact AtE.retN (rs := [.tmp 2]) rfl (ResAll.cons (ResAt.tmp rfl) ResAll.nil) rfl H

theorem lift_ratio_Text (x0 : Bool × Sl × Sl) (w : World) (m : Heap) (hr : Rel ⟨m, []⟩ w.heap) (S : ByteArray → Heap → Prop) (H : ratio_Text x0 m S) :
    Calls Tryz.prog 28 #[Value.agg (C_bool_sl_sl x0).toArray] w (Post ⟨w, m⟩ Value.string S) := by
  refine Calls.lift (args := [Value.agg (C_bool_sl_sl x0).toArray]) Tryz.func28 rfl Tryz.ntmps28 (Nat.le_of_ble_eq_true rfl) hr (ratio_Text x0 m S) H (fun H => ?_)
  refine AtC.pick (ts := [0]) rfl ?_
  unfold ratio_Text at H
  refine AtC.seqR ?_
  refine AtL.e rfl (EffX.boxP (cs := [_, _, _]) rfl rfl rfl H) ?_
  rintro _ _ ⟨b, _, rfl, rfl, _, H⟩
  replace H := H.self
  refine AtL.pures hT 1 _ _ _ _ rfl ?_
  refine AtL.nil ?_
  refine AtE.then_n (AtE.go ?_)
  refine AtC.seqR ?_
  refine AtL.pures hT 2 _ _ _ _ rfl ?_
  refine AtL.q rfl (Quiet1.loadP (i := 0) hT rfl rfl rfl rfl rfl rfl) ?_
  refine AtL.e rfl (EffX.call (f := 52) (sh := fun h => nat_Text _ h _) (H0 := H) rfl Tryz.call52 rfl (hl := fun w m hr hw => lift_nat_Text _ w m hr _ hw)) ?_
  rintro _ _ ⟨v, h0u1, rfl, rfl, H⟩
  refine AtL.pures hT 1 _ _ _ _ rfl ?_
  refine AtL.nil ?_
  refine AtE.then_n (AtE.go ?_)
  refine AtC.joinSeq (β := Unit) (fun (t0 : ByteArray) (bb : Unit) => [(3, Value.string t0)]) (fun (t0 : ByteArray) (bb : Unit) => []) [1] [0] H (by exact rfl) (by exact rfl) (fun t0 bb h0u2 H => ?_) (fun J1 H HK1 => ?_)
  ·
   refine AtC.joinSeq (β := Unit) (fun (t0u1 : ByteArray) (bb_1 : Unit) => [(3, Value.string t0u1)]) (fun (t0u1 : ByteArray) (bb_1 : Unit) => []) [] [] H (by exact rfl) (by exact rfl) (fun t0u1 bb_1 h0u3 H => ?_) (fun J3 H HK3 => ?_)
   ·
    refine AtC.seqR ?_
    refine AtL.pures hT 2 _ _ _ _ rfl ?_
    refine AtL.nil ?_
    refine AtE.then_n (AtE.go ?_)
    refine AtC.ret ?_
    exact AtE.retN (rs := [.tmp 2]) rfl (ResAll.cons (ResAt.tmp rfl) ResAll.nil) rfl H
   ·
    refine AtC.seqR ?_
    refine AtL.pures hT 1 _ _ _ _ rfl ?_
    refine AtL.q rfl (Quiet1.loadP (i := 0) hT rfl rfl rfl rfl rfl rfl) ?_
    refine AtL.pures hT 2 _ _ _ _ rfl ?_
    refine AtL.nil ?_
    refine AtE.then_n (AtE.go ?_)
    refine AtC.condB H rfl (fun H => ?_) (fun H => ?_)
    ·
     refine AtC.region ?_
     refine AtL.pures hT 2 _ _ _ _ rfl ?_
     refine AtL.q rfl (Quiet1.loadP (i := 0) hT rfl rfl rfl rfl rfl rfl) ?_
     refine AtL.e rfl (EffX.call (f := 52) (sh := fun h => nat_Text _ h _) (H0 := H) rfl Tryz.call52 rfl (hl := fun w m hr hw => lift_nat_Text _ w m hr _ hw)) ?_
     rintro _ _ ⟨v_1, h0u4, rfl, rfl, H⟩
     obtain ⟨hd3, H⟩ := H
     refine AtL.q rfl (Quiet1.concat rfl rfl rfl hd3) ?_
     obtain ⟨hd4, H⟩ := H
     refine AtL.q rfl (Quiet1.concat rfl rfl rfl hd4) ?_
     refine AtL.pures hT 1 _ _ _ _ rfl ?_
     replace H := H _ rfl
     refine AtL.nil ?_
     exact AtE.then_n ((HK3 _ () _ H).pickP (ts := [3]) (is := []) rfl rfl (by decide) rfl)
    ·
     refine AtC.skip ?_
     exact AtE.then_n ((HK3 _ () _ H).pickP (ts := [3]) (is := []) rfl rfl (by decide) rfl)
  ·
   refine AtC.seqR ?_
   refine AtL.pures hT 2 _ _ _ _ rfl ?_
   refine AtL.q rfl (Quiet1.loadP (i := 0) hT rfl rfl rfl rfl rfl rfl) ?_
   refine AtL.nil ?_
   refine AtE.then_n (AtE.go ?_)
   refine AtC.condB H rfl (fun H => ?_) (fun H => ?_)
   ·
    refine AtC.region ?_
    refine AtL.pures hT 1 _ _ _ _ rfl ?_
    obtain ⟨hd1, H⟩ := H
    refine AtL.q rfl (Quiet1.concat rfl rfl rfl hd1) ?_
    refine AtL.pures hT 1 _ _ _ _ rfl ?_
    replace H := H _ rfl
    refine AtL.nil ?_
    exact AtE.then_n ((HK1 _ () _ H).pickP (ts := [3, 1]) (is := [0]) rfl rfl (by decide) rfl)
   ·
    refine AtC.skip ?_
    exact AtE.then_n ((HK1 _ () _ H).pickP (ts := [3, 1]) (is := [0]) rfl rfl (by decide) rfl)

theorem lift_ratio_Neg (x0 : Bool × Sl × Sl) (w : World) (m : Heap) (hr : Rel ⟨m, []⟩ w.heap) (S : (Bool × Sl × Sl) → Heap → Prop) (H : ratio_Neg x0 m S) :
    Calls Tryz.prog 26 #[Value.agg (C_bool_sl_sl x0).toArray] w (Post ⟨w, m⟩ (fun r => Value.agg (C_bool_sl_sl r).toArray) S) := by
  refine Calls.lift (args := [Value.agg (C_bool_sl_sl x0).toArray]) Tryz.func26 rfl Tryz.ntmps26 (Nat.le_of_ble_eq_true rfl) hr (ratio_Neg x0 m S) H (fun H => ?_)
  refine AtC.pick (ts := [0]) rfl ?_
  unfold ratio_Neg at H
  refine AtC.seqR ?_
  refine AtL.e rfl (EffX.boxP (cs := [_, _, _]) rfl rfl rfl H) ?_
  rintro _ _ ⟨b, _, rfl, rfl, _, H⟩
  refine AtL.e rfl (EffX.allocP (cs := [_, _, _]) hT rfl rfl H) ?_
  rintro _ _ ⟨b_1, _, rfl, rfl, _, H⟩
  refine AtL.nil ?_
  replace H := H.self
  refine AtE.then_n (AtE.go ?_)
  refine AtC.joinSeq (β := Unit) (fun (t0 : Bool) (bb : Unit) => [(3, Value.bool t0)]) (fun (t0 : Bool) (bb : Unit) => []) [1, 2] [0, 1] H (by exact rfl) (by exact rfl) (fun t0 bb h0u1 H => ?_) (fun J1 H HK1 => ?_)
  ·
   apply AtC.seqS [4, 8, 10] [[], [], [], [], [], [4], [], [], [4], [4, 8], [4, 8]] [[], [], [1], [1, 2], [1, 2, 3], [0, 1, 2, 3, 4], [], [6], [1, 2, 3, 4, 6, 7], [0, 1, 2, 3, 4, 5, 6, 7, 8], [0, 1, 2, 3, 4, 5, 6, 7, 8, 9]] hmix (by kernel_rfl) [(15, _), (16, _), (17, _), (18, _), (21, _), (22, _)] rfl 3 rfl
   refine Stg.go [0, 1, 2, 3, 6, 7] [4] rfl rfl (QAll.cons (QOp.p hT rfl rfl rfl rfl rfl) (QAll.cons (QOp.p hT rfl rfl rfl rfl rfl) (QAll.cons (QOp.p hT rfl rfl rfl rfl rfl) (QAll.cons (QOp.q rfl rfl (Quiet1.loadP (i := 1) hT rfl rfl rfl rfl rfl rfl) rfl rfl) (QAll.cons (QOp.p hT rfl rfl rfl rfl rfl) (QAll.cons (QOp.q rfl rfl (Quiet1.loadP (i := 1) hT rfl rfl rfl rfl rfl rfl) rfl rfl) QAll.nil)))))) ?_
   refine EAll.cons ?_ EAll.nil
   refine EOp.e rfl rfl rfl (EffX.call (f := 50) (sh := fun h => slices_Clone_api_Nat_uint32 _ h _) (H0 := H) rfl Tryz.call50 rfl (hl := fun w m hr hw => lift_slices_Clone_api_Nat_uint32 _ w m hr _ hw)) ?_
   rintro _ _ ⟨v, h0u2, rfl, rfl, H⟩
   apply Stg.next [(19, _), (20, _)] rfl rfl
   refine Stg.go [0, 5, 6, 7] [8] rfl rfl (QAll.cons (QOp.p hT rfl rfl rfl rfl rfl) (QAll.cons (QOp.q rfl rfl (Quiet1.build (cs := [_, _]) hT rfl rfl rfl rfl rfl rfl) rfl rfl) (QAll.cons (QOp.p hT rfl rfl rfl rfl rfl) (QAll.cons (QOp.q rfl rfl (Quiet1.loadP (i := 1) hT rfl rfl rfl rfl rfl rfl) rfl rfl) QAll.nil)))) ?_
   refine EAll.cons ?_ EAll.nil
   refine EOp.e rfl rfl rfl (EffX.call (f := 50) (sh := fun h => slices_Clone_api_Nat_uint32 _ h _) (H0 := H) rfl Tryz.call50 rfl (hl := fun w m hr hw => lift_slices_Clone_api_Nat_uint32 _ w m hr _ hw)) ?_
   rintro _ _ ⟨v_1, h0u3, rfl, rfl, H⟩
   apply Stg.next [(23, _), (24, _)] rfl rfl
   refine Stg.go [0, 5, 9] [10] rfl rfl (QAll.cons (QOp.p hT rfl rfl rfl rfl rfl) (QAll.cons (QOp.q rfl rfl (Quiet1.build (cs := [_, _]) hT rfl rfl rfl rfl rfl rfl) rfl rfl) (QAll.cons (QOp.q rfl rfl (Quiet1.build (cs := [_, _, _]) hT rfl rfl rfl rfl rfl rfl) rfl rfl) QAll.nil))) ?_
   refine EAll.cons ?_ EAll.nil
   refine EOp.e rfl rfl rfl (EffX.storeSP (i := 0) (qv := [(_, [_, _, _]), (_, [_, _, _])]) hT rfl rfl rfl rfl rfl rfl rfl rfl rfl rfl) ?_
   rintro _ _ rfl
   apply Stg.next [] rfl rfl
   refine Stg.fin [] rfl rfl QAll.nil ?_
   refine AtE.then_n (AtE.go ?_)
   refine AtC.ret ?_
   exact AtE.retN (rs := [.cell 2 27]) rfl (ResAll.cons (ResAt.cellSP (i := 0) (l := [_, _, _]) hT rfl rfl rfl rfl rfl rfl rfl) ResAll.nil) rfl H
  ·
   refine AtC.region ?_
   refine AtL.pures hT 2 _ _ _ _ rfl ?_
   refine AtL.q rfl (Quiet1.loadP (i := 1) hT rfl rfl rfl rfl rfl rfl) ?_
   refine AtL.pures hT 2 _ _ _ _ rfl ?_
   refine AtL.splitB (t := 8) H rfl (fun H => ?_) (fun H => ?_)
   ·
    refine AtL.yes rfl rfl rfl ?_
    refine AtL.pures hT 1 _ _ _ _ rfl ?_
    refine AtL.yes rfl rfl rfl ?_
    refine AtL.pures hT 1 _ _ _ _ rfl ?_
    refine AtL.yes rfl rfl rfl ?_
    refine AtL.q rfl (Quiet1.loadP (i := 1) hT rfl rfl rfl rfl rfl rfl) ?_
    refine AtL.yes rfl rfl rfl ?_
    refine AtL.pures hT 1 _ _ _ _ rfl ?_
    refine AtL.yes rfl rfl rfl ?_
    refine AtL.pures hT 1 _ _ _ _ rfl ?_
    refine AtL.pures hT 2 _ _ _ _ rfl ?_
    replace H := H _ rfl
    refine AtL.nil ?_
    exact AtE.then_n ((HK1 _ () _ H).pickP (ts := [3, 1, 2]) (is := [0, 1]) rfl rfl (by decide) rfl)
   ·
    refine AtL.noF rfl rfl rfl (by decide) rfl ?_
    refine AtL.noF rfl rfl rfl (by decide) rfl ?_
    refine AtL.noF rfl rfl rfl (by decide) rfl ?_
    refine AtL.noF rfl rfl rfl (by decide) rfl ?_
    refine AtL.noF rfl rfl rfl (by decide) rfl ?_
    refine AtL.pures hT 2 _ _ _ _ rfl ?_
    refine AtL.nil ?_
    exact AtE.then_n ((HK1 _ () _ H).pickP (ts := [3, 1, 2]) (is := [0, 1]) rfl rfl (by decide) rfl)

theorem lift_ratio_Term (x0 : Bool × Sl × Sl) (w : World) (m : Heap) (hr : Rel ⟨m, []⟩ w.heap) (S : ByteArray → Heap → Prop) (H : ratio_Term x0 m S) :
    Calls Tryz.prog 30 #[Value.agg (C_bool_sl_sl x0).toArray] w (Post ⟨w, m⟩ Value.string S) := by
  refine Calls.lift (args := [Value.agg (C_bool_sl_sl x0).toArray]) Tryz.func30 rfl Tryz.ntmps30 (Nat.le_of_ble_eq_true rfl) hr (ratio_Term x0 m S) H (fun H => ?_)
  refine AtC.pick (ts := [0]) rfl ?_
  unfold ratio_Term at H
  refine AtC.seqR ?_
  refine AtL.e rfl (EffX.boxP (cs := [_, _, _]) rfl rfl rfl H) ?_
  rintro _ _ ⟨b, _, rfl, rfl, _, H⟩
  replace H := H.self
  refine AtL.pures hT 1 _ _ _ _ rfl ?_
  refine AtL.nil ?_
  refine AtE.then_n (AtE.go ?_)
  refine AtC.seqR ?_
  refine AtL.pures hT 2 _ _ _ _ rfl ?_
  refine AtL.q rfl (Quiet1.loadP (i := 0) hT rfl rfl rfl rfl rfl rfl) ?_
  refine AtL.e rfl (EffX.call (f := 52) (sh := fun h => nat_Text _ h _) (H0 := H) rfl Tryz.call52 rfl (hl := fun w m hr hw => lift_nat_Text _ w m hr _ hw)) ?_
  rintro _ _ ⟨v, h0u1, rfl, rfl, H⟩
  obtain ⟨hd0, H⟩ := H
  refine AtL.q rfl (Quiet1.concat rfl rfl rfl hd0) ?_
  refine AtL.pures hT 1 _ _ _ _ rfl ?_
  replace H := H _ rfl
  refine AtL.nil ?_
  refine AtE.then_n (AtE.go ?_)
  refine AtC.joinSeq (β := Unit) (fun (t0 : ByteArray) (bb : Unit) => [(3, Value.string t0)]) (fun (t0 : ByteArray) (bb : Unit) => []) [1] [0] H (by exact rfl) (by exact rfl) (fun t0 bb h0u2 H => ?_) (fun J2 H HK2 => ?_)
  ·
   refine AtC.joinSeq (β := Unit) (fun (t0u1 : ByteArray) (bb_1 : Unit) => [(3, Value.string t0u1)]) (fun (t0u1 : ByteArray) (bb_1 : Unit) => []) [] [] H (by exact rfl) (by exact rfl) (fun t0u1 bb_1 h0u4 H => ?_) (fun J7 H HK7 => ?_)
   ·
    refine AtC.seqR ?_
    refine AtL.pures hT 2 _ _ _ _ rfl ?_
    refine AtL.nil ?_
    refine AtE.then_n (AtE.go ?_)
    refine AtC.ret ?_
    exact AtE.retN (rs := [.tmp 2]) rfl (ResAll.cons (ResAt.tmp rfl) ResAll.nil) rfl H
   ·
    refine AtC.seqR ?_
    refine AtL.pures hT 2 _ _ _ _ rfl ?_
    refine AtL.q rfl (Quiet1.loadP (i := 0) hT rfl rfl rfl rfl rfl rfl) ?_
    refine AtL.nil ?_
    refine AtE.then_n (AtE.go ?_)
    refine AtC.condB H rfl (fun H => ?_) (fun H => ?_)
    ·
     refine AtC.region ?_
     refine AtL.pures hT 1 _ _ _ _ rfl ?_
     obtain ⟨hd7, H⟩ := H
     refine AtL.q rfl (Quiet1.concat rfl rfl rfl hd7) ?_
     obtain ⟨hd8, H⟩ := H
     refine AtL.q rfl (Quiet1.concat rfl rfl rfl hd8) ?_
     refine AtL.pures hT 1 _ _ _ _ rfl ?_
     replace H := H _ rfl
     refine AtL.nil ?_
     exact AtE.then_n ((HK7 _ () _ H).pickP (ts := [3]) (is := []) rfl rfl (by decide) rfl)
    ·
     refine AtC.skip ?_
     exact AtE.then_n ((HK7 _ () _ H).pickP (ts := [3]) (is := []) rfl rfl (by decide) rfl)
  ·
   refine AtC.seqR ?_
   refine AtL.pures hT 1 _ _ _ _ rfl ?_
   refine AtL.q rfl (Quiet1.loadP (i := 0) hT rfl rfl rfl rfl rfl rfl) ?_
   refine AtL.pures hT 2 _ _ _ _ rfl ?_
   refine AtL.nil ?_
   refine AtE.then_n (AtE.go ?_)
   refine AtC.condB H rfl (fun H => ?_) (fun H => ?_)
   ·
    refine AtC.region ?_
    refine AtL.pures hT 1 _ _ _ _ rfl ?_
    obtain ⟨hd2, H⟩ := H
    refine AtL.q rfl (Quiet1.concat rfl rfl rfl hd2) ?_
    obtain ⟨hd3, H⟩ := H
    refine AtL.q rfl (Quiet1.concat rfl rfl rfl hd3) ?_
    refine AtL.pures hT 1 _ _ _ _ rfl ?_
    refine AtL.q rfl (Quiet1.loadP (i := 0) hT rfl rfl rfl rfl rfl rfl) ?_
    refine AtL.e rfl (EffX.call (f := 52) (sh := fun h => nat_Text _ h _) (H0 := H) rfl Tryz.call52 rfl (hl := fun w m hr hw => lift_nat_Text _ w m hr _ hw)) ?_
    rintro _ _ ⟨v_1, h0u3, rfl, rfl, H⟩
    obtain ⟨hd4, H⟩ := H
    refine AtL.q rfl (Quiet1.concat rfl rfl rfl hd4) ?_
    obtain ⟨hd5, H⟩ := H
    refine AtL.q rfl (Quiet1.concat rfl rfl rfl hd5) ?_
    refine AtL.pures hT 1 _ _ _ _ rfl ?_
    replace H := H _ rfl
    refine AtL.nil ?_
    exact AtE.then_n ((HK2 _ () _ H).pickP (ts := [3, 1]) (is := [0]) rfl rfl (by decide) rfl)
   ·
    refine AtC.skip ?_
    exact AtE.then_n ((HK2 _ () _ H).pickP (ts := [3, 1]) (is := [0]) rfl rfl (by decide) rfl)

theorem lift_law02uspeaks (w : World) (m : Heap) (hr : Rel ⟨m, []⟩ w.heap) (S : Bool → Heap → Prop) (H : law02uspeaks m S) :
    Calls Tryz.prog 4 #[] w (Post ⟨w, m⟩ Value.bool S) := by
  refine Calls.lift (args := []) Tryz.func4 rfl Tryz.ntmps4 (Nat.le_of_ble_eq_true rfl) hr (law02uspeaks m S) H (fun H => ?_)
  refine AtC.pick (ts := []) rfl ?_
  unfold law02uspeaks at H
  refine AtC.seqR ?_
  refine AtL.pures hT 1 _ _ _ _ rfl ?_
  refine AtL.nil ?_
  refine AtE.then_n (AtE.go ?_)
  refine AtC.seqR ?_
  refine AtL.e rfl (EffX.call (f := 33) (sh := fun h => nat_New _ h _) (H0 := H) rfl Tryz.call33 rfl (hl := fun w m hr hw => lift_nat_New _ w m hr _ hw)) ?_
  rintro _ _ ⟨v, h0, rfl, rfl, H⟩
  refine AtL.e rfl (EffX.call (f := 32) (sh := fun h => ratio_Decimal _ _ h _) (H0 := H) rfl Tryz.call32 rfl (hl := fun w m hr hw => lift_ratio_Decimal _ _ w m hr _ hw)) ?_
  rintro _ _ ⟨v_1, h0u1, rfl, rfl, H⟩
  refine AtL.pures hT 3 _ _ _ _ rfl ?_
  refine AtL.e rfl (EffX.allocP (cs := [_, _, _]) hT rfl rfl H) ?_
  rintro _ _ ⟨b, _, rfl, rfl, _, H⟩
  replace H := H.self
  refine AtL.e rfl (EffX.storeSP (i := 0) (qv := [(_, [_, _, _])]) hT rfl rfl rfl rfl rfl rfl rfl rfl rfl rfl) ?_
  rintro _ _ rfl
  refine AtL.pures hT 1 _ _ _ _ rfl ?_
  refine AtL.nil ?_
  refine AtE.then_n (AtE.go ?_)
  refine AtC.joinSeq (β := Unit) (fun (t0 : Bool) (bb : Unit) => [(0, Value.bool t0)]) (fun (t0 : Bool) (bb : Unit) => []) [] [] H (by exact rfl) (by exact rfl) (fun t0 bb h0u3 H => ?_) (fun J1 H HK1 => ?_)
  ·
   refine AtC.ret ?_
   exact AtE.retN (rs := [.tmp 0]) rfl (ResAll.cons (ResAt.tmp rfl) ResAll.nil) rfl H
  ·
   refine AtC.region ?_
   refine AtL.pures hT 2 _ _ _ _ rfl ?_
   refine AtL.splitB (t := 9) H rfl (fun H => ?_) (fun H => ?_)
   ·
    refine AtL.yes rfl rfl rfl ?_
    refine AtL.q rfl (Quiet1.loadSP (i := 0) (l := [_, _, _]) hT rfl rfl rfl rfl rfl rfl rfl rfl) ?_
    refine AtL.yes rfl rfl rfl ?_
    refine AtL.e rfl (EffX.call (f := 28) (sh := fun h => ratio_Text _ h _) (H0 := H) rfl Tryz.call28 rfl (hl := fun w m hr hw => lift_ratio_Text _ w m hr _ hw)) ?_
    rintro _ _ ⟨v_2, h0u4, rfl, rfl, H⟩
    refine AtL.yes rfl rfl rfl ?_
    refine AtL.pures hT 1 _ _ _ _ rfl ?_
    refine AtL.pures hT 2 _ _ _ _ rfl ?_
    refine AtL.splitB (t := 14) H rfl (fun H => ?_) (fun H => ?_)
    ·
     refine AtL.yes rfl rfl rfl ?_
     refine AtL.q rfl (Quiet1.loadSP (i := 0) (l := [_, _, _]) hT rfl rfl rfl rfl rfl rfl rfl rfl) ?_
     refine AtL.yes rfl rfl rfl ?_
     refine AtL.e rfl (EffX.call (f := 26) (sh := fun h => ratio_Neg _ h _) (H0 := H) rfl Tryz.call26 rfl (hl := fun w m hr hw => lift_ratio_Neg _ w m hr _ hw)) ?_
     rintro _ _ ⟨v_3, h0u5, rfl, rfl, H⟩
     refine AtL.yes rfl rfl rfl ?_
     refine AtL.e rfl (EffX.call (f := 30) (sh := fun h => ratio_Term _ h _) (H0 := H) rfl Tryz.call30 rfl (hl := fun w m hr hw => lift_ratio_Term _ w m hr _ hw)) ?_
     rintro _ _ ⟨v_4, h0u6, rfl, rfl, H⟩
     refine AtL.yes rfl rfl rfl ?_
     refine AtL.pures hT 1 _ _ _ _ rfl ?_
     refine AtL.pures hT 2 _ _ _ _ rfl ?_
     refine AtL.nil ?_
     exact AtE.then_n ((HK1 _ () _ H).pickP (ts := [0]) (is := []) rfl rfl (by decide) rfl)
    ·
     refine AtL.noF rfl rfl rfl (by decide) rfl ?_
     refine AtL.noF rfl rfl rfl (by decide) rfl ?_
     refine AtL.noF rfl rfl rfl (by decide) rfl ?_
     refine AtL.noF rfl rfl rfl (by decide) rfl ?_
     refine AtL.pures hT 2 _ _ _ _ rfl ?_
     refine AtL.nil ?_
     exact AtE.then_n ((HK1 _ () _ H).pickP (ts := [0]) (is := []) rfl rfl (by decide) rfl)
   ·
    refine AtL.noF rfl rfl rfl (by decide) rfl ?_
    refine AtL.noF rfl rfl rfl (by decide) rfl ?_
    refine AtL.noF rfl rfl rfl (by decide) rfl ?_
    refine AtL.pures hT 2 _ _ _ _ rfl ?_
    refine AtL.noF rfl rfl rfl (by decide) rfl ?_
    refine AtL.noF rfl rfl rfl (by decide) rfl ?_
    refine AtL.noF rfl rfl rfl (by decide) rfl ?_
    refine AtL.noF rfl rfl rfl (by decide) rfl ?_
    refine AtL.pures hT 2 _ _ _ _ rfl ?_
    refine AtL.nil ?_
    exact AtE.then_n ((HK1 _ () _ H).pickP (ts := [0]) (is := []) rfl rfl (by decide) rfl)

theorem lift_law02uGreat (l : Sl) (w : World) (m : Heap) (hr : Rel ⟨m, []⟩ w.heap) (S : Bool → Heap → Prop) (H : law02uGreat l m S) :
    Calls Tryz.prog 5 #[Sl.toV l] w (Post ⟨w, m⟩ Value.bool S) := by
  refine Calls.lift (args := [Sl.toV l]) Tryz.func5 rfl Tryz.ntmps5 (Nat.le_of_ble_eq_true rfl) hr (law02uGreat l m S) H (fun H => ?_)
  refine AtC.pick (ts := [0]) rfl ?_
  unfold law02uGreat at H
  refine AtC.seqR ?_
  refine AtL.pures hT 1 _ _ _ _ rfl ?_
  refine AtL.nil ?_
  refine AtE.then_n (AtE.go ?_)
  refine AtC.seq ?_
  refine AtC.seqR ?_
  refine AtL.pures hT 3 _ _ _ _ rfl ?_
  refine AtL.nil ?_
  refine AtE.then_n (AtE.go ?_)
  refine AtC.block ?_
  refine AtC.loopM (fun (s0 : Int) => [(7, Value.int .i64 s0)]) (fun (s0 : Int) => []) [5, 6] [7, 5, 6] [] [] H (by exact rfl) (by exact rfl) (by exact rfl) (by decide) (by exact rfl) (fun Kp1 s0 h0 H Q1 HK1 => ?_)
  refine AtC.seqR ?_
  refine AtL.pures hT 1 _ _ _ _ rfl ?_
  refine AtL.nil ?_
  refine AtE.then_n (AtE.go ?_)
  refine AtC.seq ?_
  refine AtC.condB H rfl (fun H => ?_) (fun H => ?_)
  ·
   refine AtC.skip ?_
   refine AtE.then_n (AtE.go ?_)
   refine AtC.seq ?_
   refine AtC.block ?_
   refine AtC.seqR ?_
   obtain ⟨a_, hc1, hd1, H⟩ := H
   refine AtL.q rfl (Quiet1.idxS (s := _) hT rfl rfl rfl rfl rfl hc1 hd1) ?_
   obtain ⟨v, hc2, H⟩ := H
   refine AtL.q rfl (Quiet1.loadS hT rfl rfl rfl rfl hc2) ?_
   refine AtL.e rfl (EffX.allocP (cs := [_, _, _]) hT rfl rfl H) ?_
   rintro _ _ ⟨b, _, rfl, rfl, _, H⟩
   replace H := H.self
   refine AtL.e rfl (EffX.storeSP (i := 0) (qv := [(_, [_, _, _])]) hT rfl rfl rfl rfl rfl rfl rfl rfl rfl rfl) ?_
   rintro _ _ rfl
   refine AtL.nil ?_
   refine AtE.then_n (AtE.go ?_)
   refine AtC.joinSeq (β := Unit) (fun (t0 : Bool) (bb : Unit) => [(21, Value.bool t0)]) (fun (t0 : Bool) (bb : Unit) => []) [5, 6, 7] [] H (by exact rfl) (by exact rfl) (fun t0 bb h0u2 H => ?_) (fun J4 H HK4 => ?_)
   ·
    refine AtC.condB H rfl (fun H => ?_) (fun H => ?_)
    ·
     refine AtC.seqR ?_
     refine AtL.pures hT 1 _ _ _ _ rfl ?_
     refine AtL.nil ?_
     refine AtE.then_n (AtE.go ?_)
     refine AtC.ret ?_
     refine AtE.blk_r ?_
     refine AtE.then_r ?_
     refine AtE.then_r ?_
     refine AtE.blk_r ?_
     refine AtE.then_r ?_
     exact AtE.retN (rs := [.tmp 2]) rfl (ResAll.cons (ResAt.tmp rfl) ResAll.nil) rfl H
    ·
     refine AtC.skip ?_
     refine AtE.blk_n ?_
     refine AtE.then_n (AtE.go ?_)
     refine AtC.region ?_
     refine AtL.pures hT 2 _ _ _ _ rfl ?_
     refine AtL.nil ?_
     exact AtE.then_n ((HK1 _ _ H).pickP (ts := [7, 5, 6]) (is := []) rfl rfl (by decide) rfl)
   ·
    refine AtC.region ?_
    refine AtL.pures hT 2 _ _ _ _ rfl ?_
    refine AtL.q rfl (Quiet1.loadP (i := 0) hT rfl rfl rfl rfl rfl rfl) ?_
    refine AtL.pures hT 3 _ _ _ _ rfl ?_
    refine AtL.splitB (t := 16) H rfl (fun H => ?_) (fun H => ?_)
    ·
     refine AtL.noF rfl rfl rfl (by decide) rfl ?_
     refine AtL.noF rfl rfl rfl (by decide) rfl ?_
     refine AtL.noF rfl rfl rfl (by decide) rfl ?_
     refine AtL.noF rfl rfl rfl (by decide) rfl ?_
     refine AtL.pures hT 1 _ _ _ _ rfl ?_
     refine AtL.nil ?_
     exact AtE.then_n ((HK4 _ () _ H).pickP (ts := [21, 5, 6, 7]) (is := []) rfl rfl (by decide) rfl)
    ·
     refine AtL.yes rfl rfl rfl ?_
     refine AtL.pures hT 1 _ _ _ _ rfl ?_
     refine AtL.yes rfl rfl rfl ?_
     refine AtL.q rfl (Quiet1.loadP (i := 0) hT rfl rfl rfl rfl rfl rfl) ?_
     refine AtL.yes rfl rfl rfl ?_
     refine AtL.pures hT 1 _ _ _ _ rfl ?_
     refine AtL.yes rfl rfl rfl ?_
     refine AtL.pures hT 1 _ _ _ _ rfl ?_
     refine AtL.pures hT 1 _ _ _ _ rfl ?_
     refine AtL.nil ?_
     exact AtE.then_n ((HK4 _ () _ H).pickP (ts := [21, 5, 6, 7]) (is := []) rfl rfl (by decide) rfl)
  ·
   refine AtC.exit ?_
   refine AtE.then_x ?_
   refine AtE.then_x ?_
   refine AtE.blk_hit ?_
   refine AtE.then_n (AtE.go ?_)
   refine AtC.seqR ?_
   refine AtL.pures hT 1 _ _ _ _ rfl ?_
   refine AtL.nil ?_
   refine AtE.then_n (AtE.go ?_)
   refine AtC.ret ?_
   exact AtE.retN (rs := [.tmp 2]) rfl (ResAll.cons (ResAt.tmp rfl) ResAll.nil) rfl H
end Go.Proofs.YtdcdidecehbplaaGreatDoor

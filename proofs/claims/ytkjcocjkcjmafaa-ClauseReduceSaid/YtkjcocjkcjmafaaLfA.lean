/-
  Laws that the proof of this claim's statement leans on, each proved under the conditions that it states.
-/
import Derived.Test.YtkjcocjkcjmafaaProg
import Derived.Test.YtkjcocjkcjmafaaSh
set_option linter.unusedVariables false
set_option linter.unusedSimpArgs false
namespace Go.Proofs.Ytkjcocjkcjmafaa
open Go Go.Lift Go.Sh
set_option maxRecDepth 100000
set_option maxHeartbeats 40000000
attribute [local irreducible] Calls AtL AtC AtE AtD Eff Quiet1 Stg qAt QAll eAt EAll nextK Code.wp
def T : TTab := [(3, .int .i64, 1, 8, [Value.int .i64 0]), (4, .bool, 1, 1, [Value.bool false]), (9, .string, 1, 16, [Value.string (ByteArray.mk #[])]), (22, .slice 23, 1, 24, [Sl.toV Sl.nil]), (23, .slice 3, 1, 24, [Sl.toV Sl.nil]), (26, .slice 32, 1, 24, [Sl.toV Sl.nil]), (28, .struct #[⟨ "Clauses", 26, 0, false, "", "", 0⟩, ⟨ "Watch", 22, 1, false, "", "", 24⟩, ⟨ "Value", 23, 2, false, "", "", 48⟩, ⟨ "Level", 23, 3, false, "", "", 72⟩, ⟨ "Reason", 23, 4, false, "", "", 96⟩, ⟨ "Trail", 23, 5, false, "", "", 120⟩, ⟨ "Heads", 23, 6, false, "", "", 144⟩, ⟨ "Next", 3, 7, false, "", "", 168⟩], 8, 176, [Sl.toV Sl.nil, Sl.toV Sl.nil, Sl.toV Sl.nil, Sl.toV Sl.nil, Sl.toV Sl.nil, Sl.toV Sl.nil, Sl.toV Sl.nil, Value.int .i64 0]), (32, .struct #[⟨ "Lits", 23, 0, false, "", "", 0⟩, ⟨ "Learned", 4, 1, false, "", "", 24⟩, ⟨ "Use", 3, 2, false, "", "", 32⟩], 3, 40, [Sl.toV Sl.nil, Value.bool false, Value.int .i64 0]), (34, .pointer 28, 1, 8, [Value.pointer none]), (35, .slice 4, 1, 24, [Sl.toV Sl.nil]), (62, .map 3 4, 1, 8, [Value.map none]), (95, .int .u64, 1, 8, [Value.int .u64 0])]
theorem hT : TTab.Ok Try.prog T := TTab.ok_cons (by kernel_rfl) (by kernel_rfl) (TTab.ok_cons (by kernel_rfl) (by kernel_rfl) (TTab.ok_cons (by kernel_rfl) (by kernel_rfl) (TTab.ok_cons (by kernel_rfl) (by kernel_rfl) (TTab.ok_cons (by kernel_rfl) (by kernel_rfl) (TTab.ok_cons (by kernel_rfl) (by kernel_rfl) (TTab.ok_cons (by kernel_rfl) (by kernel_rfl) (TTab.ok_cons (by kernel_rfl) (by kernel_rfl) (TTab.ok_cons (by kernel_rfl) (by kernel_rfl) (TTab.ok_cons (by kernel_rfl) (by kernel_rfl) (TTab.ok_cons (by kernel_rfl) (by kernel_rfl) (TTab.ok_cons (by kernel_rfl) (by kernel_rfl) (TTab.ok_nil _))))))))))))
theorem hmix : Try.prog.follows .mixedOrders = true := by kernel_rfl
theorem lift_clause_New (bools : Int) (w : World) (m : Heap) (hr : Rel ⟨m, []⟩ w.heap) (S : (Sl × Sl × Sl × Sl × Sl × Sl × Sl × Int) → Heap → Prop) (H : clause_New bools m S) :
    Calls Try.prog 21 #[Value.int .i64 bools] w (Post ⟨w, m⟩ (fun r => Value.agg (C_sl_sl_sl_sl_sl_sl_sl_i64 r).toArray) S) := by
  refine Calls.lift (args := [Value.int .i64 bools]) Try.func21 rfl Try.ntmps21 (Nat.le_of_ble_eq_true rfl) hr (clause_New bools m S) H (fun H => ?_)
  refine AtC.pick (ts := [0]) rfl ?_
  unfold clause_New at H
  refine AtC.seqR ?_
  refine AtL.e rfl (EffX.allocP (cs := [_, _, _, _, _, _, _, _]) hT rfl rfl H) ?_
  rintro _ _ ⟨b, _, rfl, rfl, _, H⟩
  refine AtL.nil ?_
  replace H := H.self
  refine AtE.then_n (AtE.go ?_)
  refine AtC.seqR ?_
  refine AtL.pures hT 4 _ _ _ _ rfl ?_
  replace H := H _ rfl
  refine AtL.nil ?_
  refine AtE.then_n (AtE.go ?_)
  refine AtC.joinSeq (β := Nat) (fun (t0 : Sl × Sl × Sl × Sl × Sl × Sl × Sl × Int) (bb : Nat) => [(4, Value.pointer (some ⟨bb, 0, none⟩))]) (fun (t0 : Sl × Sl × Sl × Sl × Sl × Sl × Sl × Int) (bb : Nat) => [(bb, [Sl.toV t0.1, Sl.toV t0.2.1, Sl.toV t0.2.2.1, Sl.toV t0.2.2.2.1, Sl.toV t0.2.2.2.2.1, Sl.toV t0.2.2.2.2.2.1, Sl.toV t0.2.2.2.2.2.2.1, Value.int .i64 t0.2.2.2.2.2.2.2])]) [2] [0] H (by exact rfl) (by exact rfl) (fun t0 bb h0u1 H => ?_) (fun J1 H HK1 => ?_)
  ·
   refine AtC.seq ?_
   refine AtC.seqR ?_
   refine AtL.pures hT 1 _ _ _ _ rfl ?_
   refine AtL.q rfl (Quiet1.loadP (i := 0) hT rfl rfl rfl rfl rfl rfl) ?_
   refine AtL.pures hT 2 _ _ _ _ rfl ?_
   refine AtL.nil ?_
   refine AtE.then_n (AtE.go ?_)
   refine AtC.block ?_
   refine AtC.loopM (fun (s0 : Int) => [(22, Value.int .i64 s0)]) (fun (s0 : Int) => []) [2, 4, 21] [22, 2, 4, 21] [0, 1] [0, 1] H (by exact rfl) (by exact rfl) (by exact rfl) (by decide) (by exact rfl) (fun Kp67 s0 h0u523 H Q67 HK67 => ?_)
   refine AtC.seqR ?_
   refine AtL.pures hT 1 _ _ _ _ rfl ?_
   refine AtL.nil ?_
   refine AtE.then_n (AtE.go ?_)
   refine AtC.seq ?_
   refine AtC.condB H rfl (fun H => ?_) (fun H => ?_)
   ·
    refine AtC.skip ?_
    refine AtE.then_n (AtE.go ?_)
    refine AtC.seq ?_
    refine AtC.block ?_
    refine AtC.seqR ?_
    refine AtL.pures hT 2 _ _ _ _ rfl ?_
    refine AtL.nil ?_
    refine AtE.then_n (AtE.go ?_)
    refine AtC.region ?_
    refine AtL.pures hT 1 _ _ _ _ rfl ?_
    refine AtL.q rfl (Quiet1.loadP (i := 0) hT rfl rfl rfl rfl rfl rfl) ?_
    refine AtL.pures hT 1 _ _ _ _ rfl ?_
    obtain ⟨a_, hc67, hd67, H⟩ := H
    refine AtL.q rfl (Quiet1.idxS (s := _) hT rfl rfl rfl rfl rfl hc67 hd67) ?_
    refine AtL.e rfl (EffX.store hT rfl rfl rfl rfl rfl H) ?_
    rintro _ _ ⟨h0u524, rfl, H⟩
    refine AtL.nil ?_
    refine AtE.blk_n ?_
    refine AtE.then_n (AtE.go ?_)
    refine AtC.region ?_
    refine AtL.pures hT 2 _ _ _ _ rfl ?_
    refine AtL.nil ?_
    exact AtE.then_n ((HK67 _ _ H).pickP (ts := [22, 2, 4, 21]) (is := [0, 1]) rfl rfl (by decide) rfl)
   ·
    refine AtC.exit ?_
    refine AtE.then_x ?_
    refine AtE.then_x ?_
    refine AtE.blk_hit ?_
    refine AtE.then_n (AtE.go ?_)
    refine AtC.seqR ?_
    refine AtL.q rfl (Quiet1.loadSP (i := 0) (l := [_, _, _, _, _, _, _, _]) hT rfl rfl rfl rfl rfl rfl rfl rfl) ?_
    refine AtL.e rfl (EffX.storeSP (i := 1) (qv := [(_, [_, _, _, _, _, _, _, _]), (_, [_, _, _, _, _, _, _, _])]) hT rfl rfl rfl rfl rfl rfl rfl rfl rfl rfl) ?_
    rintro _ _ rfl
    refine AtL.nil ?_
    refine AtE.then_n (AtE.go ?_)
    refine AtC.ret ?_
    exact AtE.retN (rs := [.cell 2 28]) rfl (ResAll.cons (ResAt.cellSP (i := 1) (l := [_, _, _, _, _, _, _, _]) hT rfl rfl rfl rfl rfl rfl rfl) ResAll.nil) rfl H
  ·
   apply AtC.stages [2, 4, 6, 8, 10, 11] [[], [], [], [], [], [], [], [], [], [2, 4, 6, 8], [], [2, 4, 6, 8, 10]] [[], [0], [0, 1], [], [3], [], [5], [], [7], [0, 1, 2, 3, 4, 5, 6, 7, 8], [], [0, 1, 2, 3, 4, 5, 6, 7, 8, 9, 10]] hmix (by kernel_rfl) [(9, _), (10, _), (12, _), (14, _), (16, _)] rfl 6 rfl
   refine Stg.go [0, 1, 3, 5, 7] [2, 4, 6, 8, 10] rfl rfl (QAll.cons (QOp.p hT rfl rfl rfl rfl rfl) (QAll.cons (QOp.p hT rfl rfl rfl rfl rfl) (QAll.cons (QOp.p hT rfl rfl rfl rfl rfl) (QAll.cons (QOp.p hT rfl rfl rfl rfl rfl) (QAll.cons (QOp.p hT rfl rfl rfl rfl rfl) QAll.nil))))) ?_
   refine EAll.cons ?_ ?_
   ·
    replace H := H.self
    replace H := H.1
    refine EOp.e rfl rfl rfl (EffX.mkS hT rfl rfl rfl rfl rfl rfl rfl rfl (by decide) H) ?_
    rintro _ _ ⟨v, h0u3, rfl, rfl, H⟩
    apply Stg.next [(11, _)] rfl rfl
    refine Stg.go [3, 5, 7] [4, 6, 8, 10] rfl rfl (QAll.cons (QOp.p hT rfl rfl rfl rfl rfl) (QAll.cons (QOp.p hT rfl rfl rfl rfl rfl) (QAll.cons (QOp.p hT rfl rfl rfl rfl rfl) QAll.nil))) ?_
    refine EAll.cons ?_ ?_
    ·
     replace H := H.self
     replace H := H.1
     refine EOp.e rfl rfl rfl (EffX.mkS hT rfl rfl rfl rfl rfl rfl rfl rfl (by decide) H) ?_
     rintro _ _ ⟨v_1, h0u5, rfl, rfl, H⟩
     apply Stg.next [(13, _)] rfl rfl
     refine Stg.go [5, 7] [6, 8, 10] rfl rfl (QAll.cons (QOp.p hT rfl rfl rfl rfl rfl) (QAll.cons (QOp.p hT rfl rfl rfl rfl rfl) QAll.nil)) ?_
     refine EAll.cons ?_ ?_
     ·
      replace H := H.self
      replace H := H.1
      refine EOp.e rfl rfl rfl (EffX.mkS hT rfl rfl rfl rfl rfl rfl rfl rfl (by decide) H) ?_
      rintro _ _ ⟨v_2, h0u7, rfl, rfl, H⟩
      apply Stg.next [(15, _)] rfl rfl
      refine Stg.go [7] [8, 10] rfl rfl (QAll.cons (QOp.p hT rfl rfl rfl rfl rfl) QAll.nil) ?_
      refine EAll.cons ?_ ?_
      ·
       replace H := H.self
       refine EOp.e rfl rfl rfl (EffX.mkS hT rfl rfl rfl rfl rfl rfl rfl rfl (by decide) H) ?_
       rintro _ _ ⟨v_3, h0u9, rfl, rfl, H⟩
       apply Stg.next [(17, _), (18, _)] rfl rfl
       refine Stg.go [9] [10] rfl rfl (QAll.cons (QOp.q rfl rfl (Quiet1.build (cs := [_, _, _, _, _, _, _, _]) hT rfl rfl rfl rfl rfl rfl) rfl rfl) QAll.nil) ?_
       refine EAll.cons ?_ EAll.nil
       refine EOp.e rfl rfl rfl (EffX.allocP (cs := [_, _, _, _, _, _, _, _]) hT rfl rfl H) ?_
       rintro _ _ ⟨b_1, _, rfl, rfl, he1, H⟩
       apply Stg.next [(4, _)] rfl rfl
       refine Stg.go [9] [11] rfl rfl (QAll.cons (QOp.q rfl rfl (Quiet1.build (cs := [_, _, _, _, _, _, _, _]) hT rfl rfl rfl rfl rfl rfl) rfl rfl) QAll.nil) ?_
       refine EAll.cons ?_ EAll.nil
       refine EOp.e rfl rfl rfl (EffX.storeSP (i := 0) (qv := [(_, [_, _, _, _, _, _, _, _]), (_, [_, _, _, _, _, _, _, _])]) hT rfl rfl rfl rfl rfl rfl rfl rfl rfl rfl) ?_
       rintro _ _ rfl
       apply Stg.next [] rfl rfl
       refine Stg.fin [] rfl rfl QAll.nil ?_
       replace H := H.self
       exact AtE.then_n ((HK1 _ b_1 _ H).pickP (ts := [4, 2]) (is := [0, 1]) rfl rfl (by decide) rfl)
      refine EAll.cons ?_ EAll.nil
      refine EOp.e rfl rfl rfl (EffX.allocP (cs := [_, _, _, _, _, _, _, _]) hT rfl rfl H) ?_
      rintro _ _ ⟨b_2, _, rfl, rfl, he2, H⟩
      apply Stg.next [(4, _)] rfl rfl
      refine Stg.go [7] [8] rfl rfl (QAll.cons (QOp.p hT rfl rfl rfl rfl rfl) QAll.nil) ?_
      refine EAll.cons ?_ EAll.nil
      replace H := H.self
      refine EOp.e rfl rfl rfl (EffX.mkS hT rfl rfl rfl rfl rfl rfl rfl rfl (by decide) H) ?_
      rintro _ _ ⟨v_4, h0u11, rfl, rfl, H⟩
      apply Stg.next [(17, _), (18, _)] rfl rfl
      refine Stg.go [9] [11] rfl rfl (QAll.cons (QOp.q rfl rfl (Quiet1.build (cs := [_, _, _, _, _, _, _, _]) hT rfl rfl rfl rfl rfl rfl) rfl rfl) QAll.nil) ?_
      refine EAll.cons ?_ EAll.nil
      refine EOp.e rfl rfl rfl (EffX.storeSP (i := 0) (qv := [(_, [_, _, _, _, _, _, _, _]), (_, [_, _, _, _, _, _, _, _])]) hT rfl rfl rfl rfl rfl rfl rfl rfl rfl rfl) ?_
      rintro _ _ rfl
      apply Stg.next [] rfl rfl
      refine Stg.fin [] rfl rfl QAll.nil ?_
      replace H := H.self
      exact AtE.then_n ((HK1 _ b_2 _ H).pickP (ts := [4, 2]) (is := [0, 1]) rfl rfl (by decide) rfl)
     refine EAll.cons ?_ ?_
     ·
      replace H := H.self
      replace H := H.2
      refine EOp.e rfl rfl rfl (EffX.mkS hT rfl rfl rfl rfl rfl rfl rfl rfl (by decide) H) ?_
      rintro _ _ ⟨v_5, h0u13, rfl, rfl, H⟩
      apply Stg.next [(17, _)] rfl rfl
      refine Stg.go [5] [6, 10] rfl rfl (QAll.cons (QOp.p hT rfl rfl rfl rfl rfl) QAll.nil) ?_
      refine EAll.cons ?_ ?_
      ·
       replace H := H.self
       refine EOp.e rfl rfl rfl (EffX.mkS hT rfl rfl rfl rfl rfl rfl rfl rfl (by decide) H) ?_
       rintro _ _ ⟨v_6, h0u15, rfl, rfl, H⟩
       apply Stg.next [(15, _), (18, _)] rfl rfl
       refine Stg.go [9] [10] rfl rfl (QAll.cons (QOp.q rfl rfl (Quiet1.build (cs := [_, _, _, _, _, _, _, _]) hT rfl rfl rfl rfl rfl rfl) rfl rfl) QAll.nil) ?_
       refine EAll.cons ?_ EAll.nil
       refine EOp.e rfl rfl rfl (EffX.allocP (cs := [_, _, _, _, _, _, _, _]) hT rfl rfl H) ?_
       rintro _ _ ⟨b_3, _, rfl, rfl, he3, H⟩
       apply Stg.next [(4, _)] rfl rfl
       refine Stg.go [9] [11] rfl rfl (QAll.cons (QOp.q rfl rfl (Quiet1.build (cs := [_, _, _, _, _, _, _, _]) hT rfl rfl rfl rfl rfl rfl) rfl rfl) QAll.nil) ?_
       refine EAll.cons ?_ EAll.nil
       refine EOp.e rfl rfl rfl (EffX.storeSP (i := 0) (qv := [(_, [_, _, _, _, _, _, _, _]), (_, [_, _, _, _, _, _, _, _])]) hT rfl rfl rfl rfl rfl rfl rfl rfl rfl rfl) ?_
       rintro _ _ rfl
       apply Stg.next [] rfl rfl
       refine Stg.fin [] rfl rfl QAll.nil ?_
       replace H := H.self
       exact AtE.then_n ((HK1 _ b_3 _ H).pickP (ts := [4, 2]) (is := [0, 1]) rfl rfl (by decide) rfl)
      refine EAll.cons ?_ EAll.nil
      refine EOp.e rfl rfl rfl (EffX.allocP (cs := [_, _, _, _, _, _, _, _]) hT rfl rfl H) ?_
      rintro _ _ ⟨b_4, _, rfl, rfl, he4, H⟩
      apply Stg.next [(4, _)] rfl rfl
      refine Stg.go [5] [6] rfl rfl (QAll.cons (QOp.p hT rfl rfl rfl rfl rfl) QAll.nil) ?_
      refine EAll.cons ?_ EAll.nil
      replace H := H.self
      refine EOp.e rfl rfl rfl (EffX.mkS hT rfl rfl rfl rfl rfl rfl rfl rfl (by decide) H) ?_
      rintro _ _ ⟨v_7, h0u17, rfl, rfl, H⟩
      apply Stg.next [(15, _), (18, _)] rfl rfl
      refine Stg.go [9] [11] rfl rfl (QAll.cons (QOp.q rfl rfl (Quiet1.build (cs := [_, _, _, _, _, _, _, _]) hT rfl rfl rfl rfl rfl rfl) rfl rfl) QAll.nil) ?_
      refine EAll.cons ?_ EAll.nil
      refine EOp.e rfl rfl rfl (EffX.storeSP (i := 0) (qv := [(_, [_, _, _, _, _, _, _, _]), (_, [_, _, _, _, _, _, _, _])]) hT rfl rfl rfl rfl rfl rfl rfl rfl rfl rfl) ?_
      rintro _ _ rfl
      apply Stg.next [] rfl rfl
      refine Stg.fin [] rfl rfl QAll.nil ?_
      replace H := H.self
      exact AtE.then_n ((HK1 _ b_4 _ H).pickP (ts := [4, 2]) (is := [0, 1]) rfl rfl (by decide) rfl)
     refine EAll.cons ?_ EAll.nil
     refine EOp.e rfl rfl rfl (EffX.allocP (cs := [_, _, _, _, _, _, _, _]) hT rfl rfl H) ?_
     rintro _ _ ⟨b_5, _, rfl, rfl, he5, H⟩
     apply Stg.next [(4, _)] rfl rfl
     refine Stg.go [5, 7] [6, 8] rfl rfl (QAll.cons (QOp.p hT rfl rfl rfl rfl rfl) (QAll.cons (QOp.p hT rfl rfl rfl rfl rfl) QAll.nil)) ?_
     refine EAll.cons ?_ ?_
     ·
      replace H := H.self
      replace H := H.1
      refine EOp.e rfl rfl rfl (EffX.mkS hT rfl rfl rfl rfl rfl rfl rfl rfl (by decide) H) ?_
      rintro _ _ ⟨v_8, h0u19, rfl, rfl, H⟩
      apply Stg.next [(15, _)] rfl rfl
      refine Stg.go [7] [8] rfl rfl (QAll.cons (QOp.p hT rfl rfl rfl rfl rfl) QAll.nil) ?_
      refine EAll.cons ?_ EAll.nil
      replace H := H.self
      refine EOp.e rfl rfl rfl (EffX.mkS hT rfl rfl rfl rfl rfl rfl rfl rfl (by decide) H) ?_
      rintro _ _ ⟨v_9, h0u21, rfl, rfl, H⟩
      apply Stg.next [(17, _), (18, _)] rfl rfl
      refine Stg.go [9] [11] rfl rfl (QAll.cons (QOp.q rfl rfl (Quiet1.build (cs := [_, _, _, _, _, _, _, _]) hT rfl rfl rfl rfl rfl rfl) rfl rfl) QAll.nil) ?_
      refine EAll.cons ?_ EAll.nil
      refine EOp.e rfl rfl rfl (EffX.storeSP (i := 0) (qv := [(_, [_, _, _, _, _, _, _, _]), (_, [_, _, _, _, _, _, _, _])]) hT rfl rfl rfl rfl rfl rfl rfl rfl rfl rfl) ?_
      rintro _ _ rfl
      apply Stg.next [] rfl rfl
      refine Stg.fin [] rfl rfl QAll.nil ?_
      replace H := H.self
      exact AtE.then_n ((HK1 _ b_5 _ H).pickP (ts := [4, 2]) (is := [0, 1]) rfl rfl (by decide) rfl)
     refine EAll.cons ?_ EAll.nil
     replace H := H.self
     replace H := H.2
     refine EOp.e rfl rfl rfl (EffX.mkS hT rfl rfl rfl rfl rfl rfl rfl rfl (by decide) H) ?_
     rintro _ _ ⟨v_10, h0u23, rfl, rfl, H⟩
     apply Stg.next [(17, _)] rfl rfl
     refine Stg.go [5] [6] rfl rfl (QAll.cons (QOp.p hT rfl rfl rfl rfl rfl) QAll.nil) ?_
     refine EAll.cons ?_ EAll.nil
     replace H := H.self
     refine EOp.e rfl rfl rfl (EffX.mkS hT rfl rfl rfl rfl rfl rfl rfl rfl (by decide) H) ?_
     rintro _ _ ⟨v_11, h0u25, rfl, rfl, H⟩
     apply Stg.next [(15, _), (18, _)] rfl rfl
     refine Stg.go [9] [11] rfl rfl (QAll.cons (QOp.q rfl rfl (Quiet1.build (cs := [_, _, _, _, _, _, _, _]) hT rfl rfl rfl rfl rfl rfl) rfl rfl) QAll.nil) ?_
     refine EAll.cons ?_ EAll.nil
     refine EOp.e rfl rfl rfl (EffX.storeSP (i := 0) (qv := [(_, [_, _, _, _, _, _, _, _]), (_, [_, _, _, _, _, _, _, _])]) hT rfl rfl rfl rfl rfl rfl rfl rfl rfl rfl) ?_
     rintro _ _ rfl
     apply Stg.next [] rfl rfl
     refine Stg.fin [] rfl rfl QAll.nil ?_
     replace H := H.self
     exact AtE.then_n ((HK1 _ b_5 _ H).pickP (ts := [4, 2]) (is := [0, 1]) rfl rfl (by decide) rfl)
    refine EAll.cons ?_ ?_
    ·
     replace H := H.self
     replace H := H.2.1
     refine EOp.e rfl rfl rfl (EffX.mkS hT rfl rfl rfl rfl rfl rfl rfl rfl (by decide) H) ?_
     rintro _ _ ⟨v_12, h0u27, rfl, rfl, H⟩
     apply Stg.next [(15, _)] rfl rfl
     refine Stg.go [3, 7] [4, 8, 10] rfl rfl (QAll.cons (QOp.p hT rfl rfl rfl rfl rfl) (QAll.cons (QOp.p hT rfl rfl rfl rfl rfl) QAll.nil)) ?_
     refine EAll.cons ?_ ?_
     ·
      replace H := H.self
      replace H := H.1
      refine EOp.e rfl rfl rfl (EffX.mkS hT rfl rfl rfl rfl rfl rfl rfl rfl (by decide) H) ?_
      rintro _ _ ⟨v_13, h0u29, rfl, rfl, H⟩
      apply Stg.next [(13, _)] rfl rfl
      refine Stg.go [7] [8, 10] rfl rfl (QAll.cons (QOp.p hT rfl rfl rfl rfl rfl) QAll.nil) ?_
      refine EAll.cons ?_ ?_
      ·
       replace H := H.self
       refine EOp.e rfl rfl rfl (EffX.mkS hT rfl rfl rfl rfl rfl rfl rfl rfl (by decide) H) ?_
       rintro _ _ ⟨v_14, h0u31, rfl, rfl, H⟩
       apply Stg.next [(17, _), (18, _)] rfl rfl
       refine Stg.go [9] [10] rfl rfl (QAll.cons (QOp.q rfl rfl (Quiet1.build (cs := [_, _, _, _, _, _, _, _]) hT rfl rfl rfl rfl rfl rfl) rfl rfl) QAll.nil) ?_
       refine EAll.cons ?_ EAll.nil
       refine EOp.e rfl rfl rfl (EffX.allocP (cs := [_, _, _, _, _, _, _, _]) hT rfl rfl H) ?_
       rintro _ _ ⟨b_6, _, rfl, rfl, he6, H⟩
       apply Stg.next [(4, _)] rfl rfl
       refine Stg.go [9] [11] rfl rfl (QAll.cons (QOp.q rfl rfl (Quiet1.build (cs := [_, _, _, _, _, _, _, _]) hT rfl rfl rfl rfl rfl rfl) rfl rfl) QAll.nil) ?_
       refine EAll.cons ?_ EAll.nil
       refine EOp.e rfl rfl rfl (EffX.storeSP (i := 0) (qv := [(_, [_, _, _, _, _, _, _, _]), (_, [_, _, _, _, _, _, _, _])]) hT rfl rfl rfl rfl rfl rfl rfl rfl rfl rfl) ?_
       rintro _ _ rfl
       apply Stg.next [] rfl rfl
       refine Stg.fin [] rfl rfl QAll.nil ?_
       replace H := H.self
       exact AtE.then_n ((HK1 _ b_6 _ H).pickP (ts := [4, 2]) (is := [0, 1]) rfl rfl (by decide) rfl)
      refine EAll.cons ?_ EAll.nil
      refine EOp.e rfl rfl rfl (EffX.allocP (cs := [_, _, _, _, _, _, _, _]) hT rfl rfl H) ?_
      rintro _ _ ⟨b_7, _, rfl, rfl, he7, H⟩
      apply Stg.next [(4, _)] rfl rfl
      refine Stg.go [7] [8] rfl rfl (QAll.cons (QOp.p hT rfl rfl rfl rfl rfl) QAll.nil) ?_
      refine EAll.cons ?_ EAll.nil
      replace H := H.self
      refine EOp.e rfl rfl rfl (EffX.mkS hT rfl rfl rfl rfl rfl rfl rfl rfl (by decide) H) ?_
      rintro _ _ ⟨v_15, h0u33, rfl, rfl, H⟩
      apply Stg.next [(17, _), (18, _)] rfl rfl
      refine Stg.go [9] [11] rfl rfl (QAll.cons (QOp.q rfl rfl (Quiet1.build (cs := [_, _, _, _, _, _, _, _]) hT rfl rfl rfl rfl rfl rfl) rfl rfl) QAll.nil) ?_
      refine EAll.cons ?_ EAll.nil
      refine EOp.e rfl rfl rfl (EffX.storeSP (i := 0) (qv := [(_, [_, _, _, _, _, _, _, _]), (_, [_, _, _, _, _, _, _, _])]) hT rfl rfl rfl rfl rfl rfl rfl rfl rfl rfl) ?_
      rintro _ _ rfl
      apply Stg.next [] rfl rfl
      refine Stg.fin [] rfl rfl QAll.nil ?_
      replace H := H.self
      exact AtE.then_n ((HK1 _ b_7 _ H).pickP (ts := [4, 2]) (is := [0, 1]) rfl rfl (by decide) rfl)
     refine EAll.cons ?_ ?_
     ·
      replace H := H.self
      replace H := H.2
      refine EOp.e rfl rfl rfl (EffX.mkS hT rfl rfl rfl rfl rfl rfl rfl rfl (by decide) H) ?_
      rintro _ _ ⟨v_16, h0u35, rfl, rfl, H⟩
      apply Stg.next [(17, _)] rfl rfl
      refine Stg.go [3] [4, 10] rfl rfl (QAll.cons (QOp.p hT rfl rfl rfl rfl rfl) QAll.nil) ?_
      refine EAll.cons ?_ ?_
      ·
       replace H := H.self
       refine EOp.e rfl rfl rfl (EffX.mkS hT rfl rfl rfl rfl rfl rfl rfl rfl (by decide) H) ?_
       rintro _ _ ⟨v_17, h0u37, rfl, rfl, H⟩
       apply Stg.next [(13, _), (18, _)] rfl rfl
       refine Stg.go [9] [10] rfl rfl (QAll.cons (QOp.q rfl rfl (Quiet1.build (cs := [_, _, _, _, _, _, _, _]) hT rfl rfl rfl rfl rfl rfl) rfl rfl) QAll.nil) ?_
       refine EAll.cons ?_ EAll.nil
       refine EOp.e rfl rfl rfl (EffX.allocP (cs := [_, _, _, _, _, _, _, _]) hT rfl rfl H) ?_
       rintro _ _ ⟨b_8, _, rfl, rfl, he8, H⟩
       apply Stg.next [(4, _)] rfl rfl
       refine Stg.go [9] [11] rfl rfl (QAll.cons (QOp.q rfl rfl (Quiet1.build (cs := [_, _, _, _, _, _, _, _]) hT rfl rfl rfl rfl rfl rfl) rfl rfl) QAll.nil) ?_
       refine EAll.cons ?_ EAll.nil
       refine EOp.e rfl rfl rfl (EffX.storeSP (i := 0) (qv := [(_, [_, _, _, _, _, _, _, _]), (_, [_, _, _, _, _, _, _, _])]) hT rfl rfl rfl rfl rfl rfl rfl rfl rfl rfl) ?_
       rintro _ _ rfl
       apply Stg.next [] rfl rfl
       refine Stg.fin [] rfl rfl QAll.nil ?_
       replace H := H.self
       exact AtE.then_n ((HK1 _ b_8 _ H).pickP (ts := [4, 2]) (is := [0, 1]) rfl rfl (by decide) rfl)
      refine EAll.cons ?_ EAll.nil
      refine EOp.e rfl rfl rfl (EffX.allocP (cs := [_, _, _, _, _, _, _, _]) hT rfl rfl H) ?_
      rintro _ _ ⟨b_9, _, rfl, rfl, he9, H⟩
      apply Stg.next [(4, _)] rfl rfl
      refine Stg.go [3] [4] rfl rfl (QAll.cons (QOp.p hT rfl rfl rfl rfl rfl) QAll.nil) ?_
      refine EAll.cons ?_ EAll.nil
      replace H := H.self
      refine EOp.e rfl rfl rfl (EffX.mkS hT rfl rfl rfl rfl rfl rfl rfl rfl (by decide) H) ?_
      rintro _ _ ⟨v_18, h0u39, rfl, rfl, H⟩
      apply Stg.next [(13, _), (18, _)] rfl rfl
      refine Stg.go [9] [11] rfl rfl (QAll.cons (QOp.q rfl rfl (Quiet1.build (cs := [_, _, _, _, _, _, _, _]) hT rfl rfl rfl rfl rfl rfl) rfl rfl) QAll.nil) ?_
      refine EAll.cons ?_ EAll.nil
      refine EOp.e rfl rfl rfl (EffX.storeSP (i := 0) (qv := [(_, [_, _, _, _, _, _, _, _]), (_, [_, _, _, _, _, _, _, _])]) hT rfl rfl rfl rfl rfl rfl rfl rfl rfl rfl) ?_
      rintro _ _ rfl
      apply Stg.next [] rfl rfl
      refine Stg.fin [] rfl rfl QAll.nil ?_
      replace H := H.self
      exact AtE.then_n ((HK1 _ b_9 _ H).pickP (ts := [4, 2]) (is := [0, 1]) rfl rfl (by decide) rfl)
     refine EAll.cons ?_ EAll.nil
     refine EOp.e rfl rfl rfl (EffX.allocP (cs := [_, _, _, _, _, _, _, _]) hT rfl rfl H) ?_
     rintro _ _ ⟨b_10, _, rfl, rfl, he10, H⟩
     apply Stg.next [(4, _)] rfl rfl
     refine Stg.go [3, 7] [4, 8] rfl rfl (QAll.cons (QOp.p hT rfl rfl rfl rfl rfl) (QAll.cons (QOp.p hT rfl rfl rfl rfl rfl) QAll.nil)) ?_
     refine EAll.cons ?_ ?_
     ·
      replace H := H.self
      replace H := H.1
      refine EOp.e rfl rfl rfl (EffX.mkS hT rfl rfl rfl rfl rfl rfl rfl rfl (by decide) H) ?_
      rintro _ _ ⟨v_19, h0u41, rfl, rfl, H⟩
      apply Stg.next [(13, _)] rfl rfl
      refine Stg.go [7] [8] rfl rfl (QAll.cons (QOp.p hT rfl rfl rfl rfl rfl) QAll.nil) ?_
      refine EAll.cons ?_ EAll.nil
      replace H := H.self
      refine EOp.e rfl rfl rfl (EffX.mkS hT rfl rfl rfl rfl rfl rfl rfl rfl (by decide) H) ?_
      rintro _ _ ⟨v_20, h0u43, rfl, rfl, H⟩
      apply Stg.next [(17, _), (18, _)] rfl rfl
      refine Stg.go [9] [11] rfl rfl (QAll.cons (QOp.q rfl rfl (Quiet1.build (cs := [_, _, _, _, _, _, _, _]) hT rfl rfl rfl rfl rfl rfl) rfl rfl) QAll.nil) ?_
      refine EAll.cons ?_ EAll.nil
      refine EOp.e rfl rfl rfl (EffX.storeSP (i := 0) (qv := [(_, [_, _, _, _, _, _, _, _]), (_, [_, _, _, _, _, _, _, _])]) hT rfl rfl rfl rfl rfl rfl rfl rfl rfl rfl) ?_
      rintro _ _ rfl
      apply Stg.next [] rfl rfl
      refine Stg.fin [] rfl rfl QAll.nil ?_
      replace H := H.self
      exact AtE.then_n ((HK1 _ b_10 _ H).pickP (ts := [4, 2]) (is := [0, 1]) rfl rfl (by decide) rfl)
     refine EAll.cons ?_ EAll.nil
     replace H := H.self
     replace H := H.2
     refine EOp.e rfl rfl rfl (EffX.mkS hT rfl rfl rfl rfl rfl rfl rfl rfl (by decide) H) ?_
     rintro _ _ ⟨v_21, h0u45, rfl, rfl, H⟩
     apply Stg.next [(17, _)] rfl rfl
     refine Stg.go [3] [4] rfl rfl (QAll.cons (QOp.p hT rfl rfl rfl rfl rfl) QAll.nil) ?_
     refine EAll.cons ?_ EAll.nil
     replace H := H.self
     refine EOp.e rfl rfl rfl (EffX.mkS hT rfl rfl rfl rfl rfl rfl rfl rfl (by decide) H) ?_
     rintro _ _ ⟨v_22, h0u47, rfl, rfl, H⟩
     apply Stg.next [(13, _), (18, _)] rfl rfl
     refine Stg.go [9] [11] rfl rfl (QAll.cons (QOp.q rfl rfl (Quiet1.build (cs := [_, _, _, _, _, _, _, _]) hT rfl rfl rfl rfl rfl rfl) rfl rfl) QAll.nil) ?_
     refine EAll.cons ?_ EAll.nil
     refine EOp.e rfl rfl rfl (EffX.storeSP (i := 0) (qv := [(_, [_, _, _, _, _, _, _, _]), (_, [_, _, _, _, _, _, _, _])]) hT rfl rfl rfl rfl rfl rfl rfl rfl rfl rfl) ?_
     rintro _ _ rfl
     apply Stg.next [] rfl rfl
     refine Stg.fin [] rfl rfl QAll.nil ?_
     replace H := H.self
     exact AtE.then_n ((HK1 _ b_10 _ H).pickP (ts := [4, 2]) (is := [0, 1]) rfl rfl (by decide) rfl)
    refine EAll.cons ?_ ?_
    ·
     replace H := H.self
     replace H := H.2.2
     refine EOp.e rfl rfl rfl (EffX.mkS hT rfl rfl rfl rfl rfl rfl rfl rfl (by decide) H) ?_
     rintro _ _ ⟨v_23, h0u49, rfl, rfl, H⟩
     apply Stg.next [(17, _)] rfl rfl
     refine Stg.go [3, 5] [4, 6, 10] rfl rfl (QAll.cons (QOp.p hT rfl rfl rfl rfl rfl) (QAll.cons (QOp.p hT rfl rfl rfl rfl rfl) QAll.nil)) ?_
     refine EAll.cons ?_ ?_
     ·
      replace H := H.self
      replace H := H.1
      refine EOp.e rfl rfl rfl (EffX.mkS hT rfl rfl rfl rfl rfl rfl rfl rfl (by decide) H) ?_
      rintro _ _ ⟨v_24, h0u51, rfl, rfl, H⟩
      apply Stg.next [(13, _)] rfl rfl
      refine Stg.go [5] [6, 10] rfl rfl (QAll.cons (QOp.p hT rfl rfl rfl rfl rfl) QAll.nil) ?_
      refine EAll.cons ?_ ?_
      ·
       replace H := H.self
       refine EOp.e rfl rfl rfl (EffX.mkS hT rfl rfl rfl rfl rfl rfl rfl rfl (by decide) H) ?_
       rintro _ _ ⟨v_25, h0u53, rfl, rfl, H⟩
       apply Stg.next [(15, _), (18, _)] rfl rfl
       refine Stg.go [9] [10] rfl rfl (QAll.cons (QOp.q rfl rfl (Quiet1.build (cs := [_, _, _, _, _, _, _, _]) hT rfl rfl rfl rfl rfl rfl) rfl rfl) QAll.nil) ?_
       refine EAll.cons ?_ EAll.nil
       refine EOp.e rfl rfl rfl (EffX.allocP (cs := [_, _, _, _, _, _, _, _]) hT rfl rfl H) ?_
       rintro _ _ ⟨b_11, _, rfl, rfl, he11, H⟩
       apply Stg.next [(4, _)] rfl rfl
       refine Stg.go [9] [11] rfl rfl (QAll.cons (QOp.q rfl rfl (Quiet1.build (cs := [_, _, _, _, _, _, _, _]) hT rfl rfl rfl rfl rfl rfl) rfl rfl) QAll.nil) ?_
       refine EAll.cons ?_ EAll.nil
       refine EOp.e rfl rfl rfl (EffX.storeSP (i := 0) (qv := [(_, [_, _, _, _, _, _, _, _]), (_, [_, _, _, _, _, _, _, _])]) hT rfl rfl rfl rfl rfl rfl rfl rfl rfl rfl) ?_
       rintro _ _ rfl
       apply Stg.next [] rfl rfl
       refine Stg.fin [] rfl rfl QAll.nil ?_
       replace H := H.self
       exact AtE.then_n ((HK1 _ b_11 _ H).pickP (ts := [4, 2]) (is := [0, 1]) rfl rfl (by decide) rfl)
      refine EAll.cons ?_ EAll.nil
      refine EOp.e rfl rfl rfl (EffX.allocP (cs := [_, _, _, _, _, _, _, _]) hT rfl rfl H) ?_
      rintro _ _ ⟨b_12, _, rfl, rfl, he12, H⟩
      apply Stg.next [(4, _)] rfl rfl
      refine Stg.go [5] [6] rfl rfl (QAll.cons (QOp.p hT rfl rfl rfl rfl rfl) QAll.nil) ?_
      refine EAll.cons ?_ EAll.nil
      replace H := H.self
      refine EOp.e rfl rfl rfl (EffX.mkS hT rfl rfl rfl rfl rfl rfl rfl rfl (by decide) H) ?_
      rintro _ _ ⟨v_26, h0u55, rfl, rfl, H⟩
      apply Stg.next [(15, _), (18, _)] rfl rfl
      refine Stg.go [9] [11] rfl rfl (QAll.cons (QOp.q rfl rfl (Quiet1.build (cs := [_, _, _, _, _, _, _, _]) hT rfl rfl rfl rfl rfl rfl) rfl rfl) QAll.nil) ?_
      refine EAll.cons ?_ EAll.nil
      refine EOp.e rfl rfl rfl (EffX.storeSP (i := 0) (qv := [(_, [_, _, _, _, _, _, _, _]), (_, [_, _, _, _, _, _, _, _])]) hT rfl rfl rfl rfl rfl rfl rfl rfl rfl rfl) ?_
      rintro _ _ rfl
      apply Stg.next [] rfl rfl
      refine Stg.fin [] rfl rfl QAll.nil ?_
      replace H := H.self
      exact AtE.then_n ((HK1 _ b_12 _ H).pickP (ts := [4, 2]) (is := [0, 1]) rfl rfl (by decide) rfl)
     refine EAll.cons ?_ ?_
     ·
      replace H := H.self
      replace H := H.2
      refine EOp.e rfl rfl rfl (EffX.mkS hT rfl rfl rfl rfl rfl rfl rfl rfl (by decide) H) ?_
      rintro _ _ ⟨v_27, h0u57, rfl, rfl, H⟩
      apply Stg.next [(15, _)] rfl rfl
      refine Stg.go [3] [4, 10] rfl rfl (QAll.cons (QOp.p hT rfl rfl rfl rfl rfl) QAll.nil) ?_
      refine EAll.cons ?_ ?_
      ·
       replace H := H.self
       refine EOp.e rfl rfl rfl (EffX.mkS hT rfl rfl rfl rfl rfl rfl rfl rfl (by decide) H) ?_
       rintro _ _ ⟨v_28, h0u59, rfl, rfl, H⟩
       apply Stg.next [(13, _), (18, _)] rfl rfl
       refine Stg.go [9] [10] rfl rfl (QAll.cons (QOp.q rfl rfl (Quiet1.build (cs := [_, _, _, _, _, _, _, _]) hT rfl rfl rfl rfl rfl rfl) rfl rfl) QAll.nil) ?_
       refine EAll.cons ?_ EAll.nil
       refine EOp.e rfl rfl rfl (EffX.allocP (cs := [_, _, _, _, _, _, _, _]) hT rfl rfl H) ?_
       rintro _ _ ⟨b_13, _, rfl, rfl, he13, H⟩
       apply Stg.next [(4, _)] rfl rfl
       refine Stg.go [9] [11] rfl rfl (QAll.cons (QOp.q rfl rfl (Quiet1.build (cs := [_, _, _, _, _, _, _, _]) hT rfl rfl rfl rfl rfl rfl) rfl rfl) QAll.nil) ?_
       refine EAll.cons ?_ EAll.nil
       refine EOp.e rfl rfl rfl (EffX.storeSP (i := 0) (qv := [(_, [_, _, _, _, _, _, _, _]), (_, [_, _, _, _, _, _, _, _])]) hT rfl rfl rfl rfl rfl rfl rfl rfl rfl rfl) ?_
       rintro _ _ rfl
       apply Stg.next [] rfl rfl
       refine Stg.fin [] rfl rfl QAll.nil ?_
       replace H := H.self
       exact AtE.then_n ((HK1 _ b_13 _ H).pickP (ts := [4, 2]) (is := [0, 1]) rfl rfl (by decide) rfl)
      refine EAll.cons ?_ EAll.nil
      refine EOp.e rfl rfl rfl (EffX.allocP (cs := [_, _, _, _, _, _, _, _]) hT rfl rfl H) ?_
      rintro _ _ ⟨b_14, _, rfl, rfl, he14, H⟩
      apply Stg.next [(4, _)] rfl rfl
      refine Stg.go [3] [4] rfl rfl (QAll.cons (QOp.p hT rfl rfl rfl rfl rfl) QAll.nil) ?_
      refine EAll.cons ?_ EAll.nil
      replace H := H.self
      refine EOp.e rfl rfl rfl (EffX.mkS hT rfl rfl rfl rfl rfl rfl rfl rfl (by decide) H) ?_
      rintro _ _ ⟨v_29, h0u61, rfl, rfl, H⟩
      apply Stg.next [(13, _), (18, _)] rfl rfl
      refine Stg.go [9] [11] rfl rfl (QAll.cons (QOp.q rfl rfl (Quiet1.build (cs := [_, _, _, _, _, _, _, _]) hT rfl rfl rfl rfl rfl rfl) rfl rfl) QAll.nil) ?_
      refine EAll.cons ?_ EAll.nil
      refine EOp.e rfl rfl rfl (EffX.storeSP (i := 0) (qv := [(_, [_, _, _, _, _, _, _, _]), (_, [_, _, _, _, _, _, _, _])]) hT rfl rfl rfl rfl rfl rfl rfl rfl rfl rfl) ?_
      rintro _ _ rfl
      apply Stg.next [] rfl rfl
      refine Stg.fin [] rfl rfl QAll.nil ?_
      replace H := H.self
      exact AtE.then_n ((HK1 _ b_14 _ H).pickP (ts := [4, 2]) (is := [0, 1]) rfl rfl (by decide) rfl)
     refine EAll.cons ?_ EAll.nil
     refine EOp.e rfl rfl rfl (EffX.allocP (cs := [_, _, _, _, _, _, _, _]) hT rfl rfl H) ?_
     rintro _ _ ⟨b_15, _, rfl, rfl, he15, H⟩
     apply Stg.next [(4, _)] rfl rfl
     refine Stg.go [3, 5] [4, 6] rfl rfl (QAll.cons (QOp.p hT rfl rfl rfl rfl rfl) (QAll.cons (QOp.p hT rfl rfl rfl rfl rfl) QAll.nil)) ?_
     refine EAll.cons ?_ ?_
     ·
      replace H := H.self
      replace H := H.1
      refine EOp.e rfl rfl rfl (EffX.mkS hT rfl rfl rfl rfl rfl rfl rfl rfl (by decide) H) ?_
      rintro _ _ ⟨v_30, h0u63, rfl, rfl, H⟩
      apply Stg.next [(13, _)] rfl rfl
      refine Stg.go [5] [6] rfl rfl (QAll.cons (QOp.p hT rfl rfl rfl rfl rfl) QAll.nil) ?_
      refine EAll.cons ?_ EAll.nil
      replace H := H.self
      refine EOp.e rfl rfl rfl (EffX.mkS hT rfl rfl rfl rfl rfl rfl rfl rfl (by decide) H) ?_
      rintro _ _ ⟨v_31, h0u65, rfl, rfl, H⟩
      apply Stg.next [(15, _), (18, _)] rfl rfl
      refine Stg.go [9] [11] rfl rfl (QAll.cons (QOp.q rfl rfl (Quiet1.build (cs := [_, _, _, _, _, _, _, _]) hT rfl rfl rfl rfl rfl rfl) rfl rfl) QAll.nil) ?_
      refine EAll.cons ?_ EAll.nil
      refine EOp.e rfl rfl rfl (EffX.storeSP (i := 0) (qv := [(_, [_, _, _, _, _, _, _, _]), (_, [_, _, _, _, _, _, _, _])]) hT rfl rfl rfl rfl rfl rfl rfl rfl rfl rfl) ?_
      rintro _ _ rfl
      apply Stg.next [] rfl rfl
      refine Stg.fin [] rfl rfl QAll.nil ?_
      replace H := H.self
      exact AtE.then_n ((HK1 _ b_15 _ H).pickP (ts := [4, 2]) (is := [0, 1]) rfl rfl (by decide) rfl)
     refine EAll.cons ?_ EAll.nil
     replace H := H.self
     replace H := H.2
     refine EOp.e rfl rfl rfl (EffX.mkS hT rfl rfl rfl rfl rfl rfl rfl rfl (by decide) H) ?_
     rintro _ _ ⟨v_32, h0u67, rfl, rfl, H⟩
     apply Stg.next [(15, _)] rfl rfl
     refine Stg.go [3] [4] rfl rfl (QAll.cons (QOp.p hT rfl rfl rfl rfl rfl) QAll.nil) ?_
     refine EAll.cons ?_ EAll.nil
     replace H := H.self
     refine EOp.e rfl rfl rfl (EffX.mkS hT rfl rfl rfl rfl rfl rfl rfl rfl (by decide) H) ?_
     rintro _ _ ⟨v_33, h0u69, rfl, rfl, H⟩
     apply Stg.next [(13, _), (18, _)] rfl rfl
     refine Stg.go [9] [11] rfl rfl (QAll.cons (QOp.q rfl rfl (Quiet1.build (cs := [_, _, _, _, _, _, _, _]) hT rfl rfl rfl rfl rfl rfl) rfl rfl) QAll.nil) ?_
     refine EAll.cons ?_ EAll.nil
     refine EOp.e rfl rfl rfl (EffX.storeSP (i := 0) (qv := [(_, [_, _, _, _, _, _, _, _]), (_, [_, _, _, _, _, _, _, _])]) hT rfl rfl rfl rfl rfl rfl rfl rfl rfl rfl) ?_
     rintro _ _ rfl
     apply Stg.next [] rfl rfl
     refine Stg.fin [] rfl rfl QAll.nil ?_
     replace H := H.self
     exact AtE.then_n ((HK1 _ b_15 _ H).pickP (ts := [4, 2]) (is := [0, 1]) rfl rfl (by decide) rfl)
    refine EAll.cons ?_ EAll.nil
    refine EOp.e rfl rfl rfl (EffX.allocP (cs := [_, _, _, _, _, _, _, _]) hT rfl rfl H) ?_
    rintro _ _ ⟨b_16, _, rfl, rfl, he16, H⟩
    apply Stg.next [(4, _)] rfl rfl
    refine Stg.go [3, 5, 7] [4, 6, 8] rfl rfl (QAll.cons (QOp.p hT rfl rfl rfl rfl rfl) (QAll.cons (QOp.p hT rfl rfl rfl rfl rfl) (QAll.cons (QOp.p hT rfl rfl rfl rfl rfl) QAll.nil))) ?_
    refine EAll.cons ?_ ?_
    ·
     replace H := H.self
     replace H := H.1
     refine EOp.e rfl rfl rfl (EffX.mkS hT rfl rfl rfl rfl rfl rfl rfl rfl (by decide) H) ?_
     rintro _ _ ⟨v_34, h0u71, rfl, rfl, H⟩
     apply Stg.next [(13, _)] rfl rfl
     refine Stg.go [5, 7] [6, 8] rfl rfl (QAll.cons (QOp.p hT rfl rfl rfl rfl rfl) (QAll.cons (QOp.p hT rfl rfl rfl rfl rfl) QAll.nil)) ?_
     refine EAll.cons ?_ ?_
     ·
      replace H := H.self
      replace H := H.1
      refine EOp.e rfl rfl rfl (EffX.mkS hT rfl rfl rfl rfl rfl rfl rfl rfl (by decide) H) ?_
      rintro _ _ ⟨v_35, h0u73, rfl, rfl, H⟩
      apply Stg.next [(15, _)] rfl rfl
      refine Stg.go [7] [8] rfl rfl (QAll.cons (QOp.p hT rfl rfl rfl rfl rfl) QAll.nil) ?_
      refine EAll.cons ?_ EAll.nil
      replace H := H.self
      refine EOp.e rfl rfl rfl (EffX.mkS hT rfl rfl rfl rfl rfl rfl rfl rfl (by decide) H) ?_
      rintro _ _ ⟨v_36, h0u75, rfl, rfl, H⟩
      apply Stg.next [(17, _), (18, _)] rfl rfl
      refine Stg.go [9] [11] rfl rfl (QAll.cons (QOp.q rfl rfl (Quiet1.build (cs := [_, _, _, _, _, _, _, _]) hT rfl rfl rfl rfl rfl rfl) rfl rfl) QAll.nil) ?_
      refine EAll.cons ?_ EAll.nil
      refine EOp.e rfl rfl rfl (EffX.storeSP (i := 0) (qv := [(_, [_, _, _, _, _, _, _, _]), (_, [_, _, _, _, _, _, _, _])]) hT rfl rfl rfl rfl rfl rfl rfl rfl rfl rfl) ?_
      rintro _ _ rfl
      apply Stg.next [] rfl rfl
      refine Stg.fin [] rfl rfl QAll.nil ?_
      replace H := H.self
      exact AtE.then_n ((HK1 _ b_16 _ H).pickP (ts := [4, 2]) (is := [0, 1]) rfl rfl (by decide) rfl)
     refine EAll.cons ?_ EAll.nil
     replace H := H.self
     replace H := H.2
     refine EOp.e rfl rfl rfl (EffX.mkS hT rfl rfl rfl rfl rfl rfl rfl rfl (by decide) H) ?_
     rintro _ _ ⟨v_37, h0u77, rfl, rfl, H⟩
     apply Stg.next [(17, _)] rfl rfl
     refine Stg.go [5] [6] rfl rfl (QAll.cons (QOp.p hT rfl rfl rfl rfl rfl) QAll.nil) ?_
     refine EAll.cons ?_ EAll.nil
     replace H := H.self
     refine EOp.e rfl rfl rfl (EffX.mkS hT rfl rfl rfl rfl rfl rfl rfl rfl (by decide) H) ?_
     rintro _ _ ⟨v_38, h0u79, rfl, rfl, H⟩
     apply Stg.next [(15, _), (18, _)] rfl rfl
     refine Stg.go [9] [11] rfl rfl (QAll.cons (QOp.q rfl rfl (Quiet1.build (cs := [_, _, _, _, _, _, _, _]) hT rfl rfl rfl rfl rfl rfl) rfl rfl) QAll.nil) ?_
     refine EAll.cons ?_ EAll.nil
     refine EOp.e rfl rfl rfl (EffX.storeSP (i := 0) (qv := [(_, [_, _, _, _, _, _, _, _]), (_, [_, _, _, _, _, _, _, _])]) hT rfl rfl rfl rfl rfl rfl rfl rfl rfl rfl) ?_
     rintro _ _ rfl
     apply Stg.next [] rfl rfl
     refine Stg.fin [] rfl rfl QAll.nil ?_
     replace H := H.self
     exact AtE.then_n ((HK1 _ b_16 _ H).pickP (ts := [4, 2]) (is := [0, 1]) rfl rfl (by decide) rfl)
    refine EAll.cons ?_ ?_
    ·
     replace H := H.self
     replace H := H.2.1
     refine EOp.e rfl rfl rfl (EffX.mkS hT rfl rfl rfl rfl rfl rfl rfl rfl (by decide) H) ?_
     rintro _ _ ⟨v_39, h0u81, rfl, rfl, H⟩
     apply Stg.next [(15, _)] rfl rfl
     refine Stg.go [3, 7] [4, 8] rfl rfl (QAll.cons (QOp.p hT rfl rfl rfl rfl rfl) (QAll.cons (QOp.p hT rfl rfl rfl rfl rfl) QAll.nil)) ?_
     refine EAll.cons ?_ ?_
     ·
      replace H := H.self
      replace H := H.1
      refine EOp.e rfl rfl rfl (EffX.mkS hT rfl rfl rfl rfl rfl rfl rfl rfl (by decide) H) ?_
      rintro _ _ ⟨v_40, h0u83, rfl, rfl, H⟩
      apply Stg.next [(13, _)] rfl rfl
      refine Stg.go [7] [8] rfl rfl (QAll.cons (QOp.p hT rfl rfl rfl rfl rfl) QAll.nil) ?_
      refine EAll.cons ?_ EAll.nil
      replace H := H.self
      refine EOp.e rfl rfl rfl (EffX.mkS hT rfl rfl rfl rfl rfl rfl rfl rfl (by decide) H) ?_
      rintro _ _ ⟨v_41, h0u85, rfl, rfl, H⟩
      apply Stg.next [(17, _), (18, _)] rfl rfl
      refine Stg.go [9] [11] rfl rfl (QAll.cons (QOp.q rfl rfl (Quiet1.build (cs := [_, _, _, _, _, _, _, _]) hT rfl rfl rfl rfl rfl rfl) rfl rfl) QAll.nil) ?_
      refine EAll.cons ?_ EAll.nil
      refine EOp.e rfl rfl rfl (EffX.storeSP (i := 0) (qv := [(_, [_, _, _, _, _, _, _, _]), (_, [_, _, _, _, _, _, _, _])]) hT rfl rfl rfl rfl rfl rfl rfl rfl rfl rfl) ?_
      rintro _ _ rfl
      apply Stg.next [] rfl rfl
      refine Stg.fin [] rfl rfl QAll.nil ?_
      replace H := H.self
      exact AtE.then_n ((HK1 _ b_16 _ H).pickP (ts := [4, 2]) (is := [0, 1]) rfl rfl (by decide) rfl)
     refine EAll.cons ?_ EAll.nil
     replace H := H.self
     replace H := H.2
     refine EOp.e rfl rfl rfl (EffX.mkS hT rfl rfl rfl rfl rfl rfl rfl rfl (by decide) H) ?_
     rintro _ _ ⟨v_42, h0u87, rfl, rfl, H⟩
     apply Stg.next [(17, _)] rfl rfl
     refine Stg.go [3] [4] rfl rfl (QAll.cons (QOp.p hT rfl rfl rfl rfl rfl) QAll.nil) ?_
     refine EAll.cons ?_ EAll.nil
     replace H := H.self
     refine EOp.e rfl rfl rfl (EffX.mkS hT rfl rfl rfl rfl rfl rfl rfl rfl (by decide) H) ?_
     rintro _ _ ⟨v_43, h0u89, rfl, rfl, H⟩
     apply Stg.next [(13, _), (18, _)] rfl rfl
     refine Stg.go [9] [11] rfl rfl (QAll.cons (QOp.q rfl rfl (Quiet1.build (cs := [_, _, _, _, _, _, _, _]) hT rfl rfl rfl rfl rfl rfl) rfl rfl) QAll.nil) ?_
     refine EAll.cons ?_ EAll.nil
     refine EOp.e rfl rfl rfl (EffX.storeSP (i := 0) (qv := [(_, [_, _, _, _, _, _, _, _]), (_, [_, _, _, _, _, _, _, _])]) hT rfl rfl rfl rfl rfl rfl rfl rfl rfl rfl) ?_
     rintro _ _ rfl
     apply Stg.next [] rfl rfl
     refine Stg.fin [] rfl rfl QAll.nil ?_
     replace H := H.self
     exact AtE.then_n ((HK1 _ b_16 _ H).pickP (ts := [4, 2]) (is := [0, 1]) rfl rfl (by decide) rfl)
    refine EAll.cons ?_ EAll.nil
    replace H := H.self
    replace H := H.2.2
    refine EOp.e rfl rfl rfl (EffX.mkS hT rfl rfl rfl rfl rfl rfl rfl rfl (by decide) H) ?_
    rintro _ _ ⟨v_44, h0u91, rfl, rfl, H⟩
    apply Stg.next [(17, _)] rfl rfl
    refine Stg.go [3, 5] [4, 6] rfl rfl (QAll.cons (QOp.p hT rfl rfl rfl rfl rfl) (QAll.cons (QOp.p hT rfl rfl rfl rfl rfl) QAll.nil)) ?_
    refine EAll.cons ?_ ?_
    ·
     replace H := H.self
     replace H := H.1
     refine EOp.e rfl rfl rfl (EffX.mkS hT rfl rfl rfl rfl rfl rfl rfl rfl (by decide) H) ?_
     rintro _ _ ⟨v_45, h0u93, rfl, rfl, H⟩
     apply Stg.next [(13, _)] rfl rfl
     refine Stg.go [5] [6] rfl rfl (QAll.cons (QOp.p hT rfl rfl rfl rfl rfl) QAll.nil) ?_
     refine EAll.cons ?_ EAll.nil
     replace H := H.self
     refine EOp.e rfl rfl rfl (EffX.mkS hT rfl rfl rfl rfl rfl rfl rfl rfl (by decide) H) ?_
     rintro _ _ ⟨v_46, h0u95, rfl, rfl, H⟩
     apply Stg.next [(15, _), (18, _)] rfl rfl
     refine Stg.go [9] [11] rfl rfl (QAll.cons (QOp.q rfl rfl (Quiet1.build (cs := [_, _, _, _, _, _, _, _]) hT rfl rfl rfl rfl rfl rfl) rfl rfl) QAll.nil) ?_
     refine EAll.cons ?_ EAll.nil
     refine EOp.e rfl rfl rfl (EffX.storeSP (i := 0) (qv := [(_, [_, _, _, _, _, _, _, _]), (_, [_, _, _, _, _, _, _, _])]) hT rfl rfl rfl rfl rfl rfl rfl rfl rfl rfl) ?_
     rintro _ _ rfl
     apply Stg.next [] rfl rfl
     refine Stg.fin [] rfl rfl QAll.nil ?_
     replace H := H.self
     exact AtE.then_n ((HK1 _ b_16 _ H).pickP (ts := [4, 2]) (is := [0, 1]) rfl rfl (by decide) rfl)
    refine EAll.cons ?_ EAll.nil
    replace H := H.self
    replace H := H.2
    refine EOp.e rfl rfl rfl (EffX.mkS hT rfl rfl rfl rfl rfl rfl rfl rfl (by decide) H) ?_
    rintro _ _ ⟨v_47, h0u97, rfl, rfl, H⟩
    apply Stg.next [(15, _)] rfl rfl
    refine Stg.go [3] [4] rfl rfl (QAll.cons (QOp.p hT rfl rfl rfl rfl rfl) QAll.nil) ?_
    refine EAll.cons ?_ EAll.nil
    replace H := H.self
    refine EOp.e rfl rfl rfl (EffX.mkS hT rfl rfl rfl rfl rfl rfl rfl rfl (by decide) H) ?_
    rintro _ _ ⟨v_48, h0u99, rfl, rfl, H⟩
    apply Stg.next [(13, _), (18, _)] rfl rfl
    refine Stg.go [9] [11] rfl rfl (QAll.cons (QOp.q rfl rfl (Quiet1.build (cs := [_, _, _, _, _, _, _, _]) hT rfl rfl rfl rfl rfl rfl) rfl rfl) QAll.nil) ?_
    refine EAll.cons ?_ EAll.nil
    refine EOp.e rfl rfl rfl (EffX.storeSP (i := 0) (qv := [(_, [_, _, _, _, _, _, _, _]), (_, [_, _, _, _, _, _, _, _])]) hT rfl rfl rfl rfl rfl rfl rfl rfl rfl rfl) ?_
    rintro _ _ rfl
    apply Stg.next [] rfl rfl
    refine Stg.fin [] rfl rfl QAll.nil ?_
    replace H := H.self
    exact AtE.then_n ((HK1 _ b_16 _ H).pickP (ts := [4, 2]) (is := [0, 1]) rfl rfl (by decide) rfl)
   refine EAll.cons ?_ ?_
   ·
    replace H := H.self
    replace H := H.2.1
    refine EOp.e rfl rfl rfl (EffX.mkS hT rfl rfl rfl rfl rfl rfl rfl rfl (by decide) H) ?_
    rintro _ _ ⟨v_49, h0u101, rfl, rfl, H⟩
    apply Stg.next [(13, _)] rfl rfl
    refine Stg.go [0, 1, 5, 7] [2, 6, 8, 10] rfl rfl (QAll.cons (QOp.p hT rfl rfl rfl rfl rfl) (QAll.cons (QOp.p hT rfl rfl rfl rfl rfl) (QAll.cons (QOp.p hT rfl rfl rfl rfl rfl) (QAll.cons (QOp.p hT rfl rfl rfl rfl rfl) QAll.nil)))) ?_
    refine EAll.cons ?_ ?_
    ·
     replace H := H.self
     replace H := H.1
     refine EOp.e rfl rfl rfl (EffX.mkS hT rfl rfl rfl rfl rfl rfl rfl rfl (by decide) H) ?_
     rintro _ _ ⟨v_50, h0u103, rfl, rfl, H⟩
     apply Stg.next [(11, _)] rfl rfl
     refine Stg.go [5, 7] [6, 8, 10] rfl rfl (QAll.cons (QOp.p hT rfl rfl rfl rfl rfl) (QAll.cons (QOp.p hT rfl rfl rfl rfl rfl) QAll.nil)) ?_
     refine EAll.cons ?_ ?_
     ·
      replace H := H.self
      replace H := H.1
      refine EOp.e rfl rfl rfl (EffX.mkS hT rfl rfl rfl rfl rfl rfl rfl rfl (by decide) H) ?_
      rintro _ _ ⟨v_51, h0u105, rfl, rfl, H⟩
      apply Stg.next [(15, _)] rfl rfl
      refine Stg.go [7] [8, 10] rfl rfl (QAll.cons (QOp.p hT rfl rfl rfl rfl rfl) QAll.nil) ?_
      refine EAll.cons ?_ ?_
      ·
       replace H := H.self
       refine EOp.e rfl rfl rfl (EffX.mkS hT rfl rfl rfl rfl rfl rfl rfl rfl (by decide) H) ?_
       rintro _ _ ⟨v_52, h0u107, rfl, rfl, H⟩
       apply Stg.next [(17, _), (18, _)] rfl rfl
       refine Stg.go [9] [10] rfl rfl (QAll.cons (QOp.q rfl rfl (Quiet1.build (cs := [_, _, _, _, _, _, _, _]) hT rfl rfl rfl rfl rfl rfl) rfl rfl) QAll.nil) ?_
       refine EAll.cons ?_ EAll.nil
       refine EOp.e rfl rfl rfl (EffX.allocP (cs := [_, _, _, _, _, _, _, _]) hT rfl rfl H) ?_
       rintro _ _ ⟨b_17, _, rfl, rfl, he17, H⟩
       apply Stg.next [(4, _)] rfl rfl
       refine Stg.go [9] [11] rfl rfl (QAll.cons (QOp.q rfl rfl (Quiet1.build (cs := [_, _, _, _, _, _, _, _]) hT rfl rfl rfl rfl rfl rfl) rfl rfl) QAll.nil) ?_
       refine EAll.cons ?_ EAll.nil
       refine EOp.e rfl rfl rfl (EffX.storeSP (i := 0) (qv := [(_, [_, _, _, _, _, _, _, _]), (_, [_, _, _, _, _, _, _, _])]) hT rfl rfl rfl rfl rfl rfl rfl rfl rfl rfl) ?_
       rintro _ _ rfl
       apply Stg.next [] rfl rfl
       refine Stg.fin [] rfl rfl QAll.nil ?_
       replace H := H.self
       exact AtE.then_n ((HK1 _ b_17 _ H).pickP (ts := [4, 2]) (is := [0, 1]) rfl rfl (by decide) rfl)
      refine EAll.cons ?_ EAll.nil
      refine EOp.e rfl rfl rfl (EffX.allocP (cs := [_, _, _, _, _, _, _, _]) hT rfl rfl H) ?_
      rintro _ _ ⟨b_18, _, rfl, rfl, he18, H⟩
      apply Stg.next [(4, _)] rfl rfl
      refine Stg.go [7] [8] rfl rfl (QAll.cons (QOp.p hT rfl rfl rfl rfl rfl) QAll.nil) ?_
      refine EAll.cons ?_ EAll.nil
      replace H := H.self
      refine EOp.e rfl rfl rfl (EffX.mkS hT rfl rfl rfl rfl rfl rfl rfl rfl (by decide) H) ?_
      rintro _ _ ⟨v_53, h0u109, rfl, rfl, H⟩
      apply Stg.next [(17, _), (18, _)] rfl rfl
      refine Stg.go [9] [11] rfl rfl (QAll.cons (QOp.q rfl rfl (Quiet1.build (cs := [_, _, _, _, _, _, _, _]) hT rfl rfl rfl rfl rfl rfl) rfl rfl) QAll.nil) ?_
      refine EAll.cons ?_ EAll.nil
      refine EOp.e rfl rfl rfl (EffX.storeSP (i := 0) (qv := [(_, [_, _, _, _, _, _, _, _]), (_, [_, _, _, _, _, _, _, _])]) hT rfl rfl rfl rfl rfl rfl rfl rfl rfl rfl) ?_
      rintro _ _ rfl
      apply Stg.next [] rfl rfl
      refine Stg.fin [] rfl rfl QAll.nil ?_
      replace H := H.self
      exact AtE.then_n ((HK1 _ b_18 _ H).pickP (ts := [4, 2]) (is := [0, 1]) rfl rfl (by decide) rfl)
     refine EAll.cons ?_ ?_
     ·
      replace H := H.self
      replace H := H.2
      refine EOp.e rfl rfl rfl (EffX.mkS hT rfl rfl rfl rfl rfl rfl rfl rfl (by decide) H) ?_
      rintro _ _ ⟨v_54, h0u111, rfl, rfl, H⟩
      apply Stg.next [(17, _)] rfl rfl
      refine Stg.go [5] [6, 10] rfl rfl (QAll.cons (QOp.p hT rfl rfl rfl rfl rfl) QAll.nil) ?_
      refine EAll.cons ?_ ?_
      ·
       replace H := H.self
       refine EOp.e rfl rfl rfl (EffX.mkS hT rfl rfl rfl rfl rfl rfl rfl rfl (by decide) H) ?_
       rintro _ _ ⟨v_55, h0u113, rfl, rfl, H⟩
       apply Stg.next [(15, _), (18, _)] rfl rfl
       refine Stg.go [9] [10] rfl rfl (QAll.cons (QOp.q rfl rfl (Quiet1.build (cs := [_, _, _, _, _, _, _, _]) hT rfl rfl rfl rfl rfl rfl) rfl rfl) QAll.nil) ?_
       refine EAll.cons ?_ EAll.nil
       refine EOp.e rfl rfl rfl (EffX.allocP (cs := [_, _, _, _, _, _, _, _]) hT rfl rfl H) ?_
       rintro _ _ ⟨b_19, _, rfl, rfl, he19, H⟩
       apply Stg.next [(4, _)] rfl rfl
       refine Stg.go [9] [11] rfl rfl (QAll.cons (QOp.q rfl rfl (Quiet1.build (cs := [_, _, _, _, _, _, _, _]) hT rfl rfl rfl rfl rfl rfl) rfl rfl) QAll.nil) ?_
       refine EAll.cons ?_ EAll.nil
       refine EOp.e rfl rfl rfl (EffX.storeSP (i := 0) (qv := [(_, [_, _, _, _, _, _, _, _]), (_, [_, _, _, _, _, _, _, _])]) hT rfl rfl rfl rfl rfl rfl rfl rfl rfl rfl) ?_
       rintro _ _ rfl
       apply Stg.next [] rfl rfl
       refine Stg.fin [] rfl rfl QAll.nil ?_
       replace H := H.self
       exact AtE.then_n ((HK1 _ b_19 _ H).pickP (ts := [4, 2]) (is := [0, 1]) rfl rfl (by decide) rfl)
      refine EAll.cons ?_ EAll.nil
      refine EOp.e rfl rfl rfl (EffX.allocP (cs := [_, _, _, _, _, _, _, _]) hT rfl rfl H) ?_
      rintro _ _ ⟨b_20, _, rfl, rfl, he20, H⟩
      apply Stg.next [(4, _)] rfl rfl
      refine Stg.go [5] [6] rfl rfl (QAll.cons (QOp.p hT rfl rfl rfl rfl rfl) QAll.nil) ?_
      refine EAll.cons ?_ EAll.nil
      replace H := H.self
      refine EOp.e rfl rfl rfl (EffX.mkS hT rfl rfl rfl rfl rfl rfl rfl rfl (by decide) H) ?_
      rintro _ _ ⟨v_56, h0u115, rfl, rfl, H⟩
      apply Stg.next [(15, _), (18, _)] rfl rfl
      refine Stg.go [9] [11] rfl rfl (QAll.cons (QOp.q rfl rfl (Quiet1.build (cs := [_, _, _, _, _, _, _, _]) hT rfl rfl rfl rfl rfl rfl) rfl rfl) QAll.nil) ?_
      refine EAll.cons ?_ EAll.nil
      refine EOp.e rfl rfl rfl (EffX.storeSP (i := 0) (qv := [(_, [_, _, _, _, _, _, _, _]), (_, [_, _, _, _, _, _, _, _])]) hT rfl rfl rfl rfl rfl rfl rfl rfl rfl rfl) ?_
      rintro _ _ rfl
      apply Stg.next [] rfl rfl
      refine Stg.fin [] rfl rfl QAll.nil ?_
      replace H := H.self
      exact AtE.then_n ((HK1 _ b_20 _ H).pickP (ts := [4, 2]) (is := [0, 1]) rfl rfl (by decide) rfl)
     refine EAll.cons ?_ EAll.nil
     refine EOp.e rfl rfl rfl (EffX.allocP (cs := [_, _, _, _, _, _, _, _]) hT rfl rfl H) ?_
     rintro _ _ ⟨b_21, _, rfl, rfl, he21, H⟩
     apply Stg.next [(4, _)] rfl rfl
     refine Stg.go [5, 7] [6, 8] rfl rfl (QAll.cons (QOp.p hT rfl rfl rfl rfl rfl) (QAll.cons (QOp.p hT rfl rfl rfl rfl rfl) QAll.nil)) ?_
     refine EAll.cons ?_ ?_
     ·
      replace H := H.self
      replace H := H.1
      refine EOp.e rfl rfl rfl (EffX.mkS hT rfl rfl rfl rfl rfl rfl rfl rfl (by decide) H) ?_
      rintro _ _ ⟨v_57, h0u117, rfl, rfl, H⟩
      apply Stg.next [(15, _)] rfl rfl
      refine Stg.go [7] [8] rfl rfl (QAll.cons (QOp.p hT rfl rfl rfl rfl rfl) QAll.nil) ?_
      refine EAll.cons ?_ EAll.nil
      replace H := H.self
      refine EOp.e rfl rfl rfl (EffX.mkS hT rfl rfl rfl rfl rfl rfl rfl rfl (by decide) H) ?_
      rintro _ _ ⟨v_58, h0u119, rfl, rfl, H⟩
      apply Stg.next [(17, _), (18, _)] rfl rfl
      refine Stg.go [9] [11] rfl rfl (QAll.cons (QOp.q rfl rfl (Quiet1.build (cs := [_, _, _, _, _, _, _, _]) hT rfl rfl rfl rfl rfl rfl) rfl rfl) QAll.nil) ?_
      refine EAll.cons ?_ EAll.nil
      refine EOp.e rfl rfl rfl (EffX.storeSP (i := 0) (qv := [(_, [_, _, _, _, _, _, _, _]), (_, [_, _, _, _, _, _, _, _])]) hT rfl rfl rfl rfl rfl rfl rfl rfl rfl rfl) ?_
      rintro _ _ rfl
      apply Stg.next [] rfl rfl
      refine Stg.fin [] rfl rfl QAll.nil ?_
      replace H := H.self
      exact AtE.then_n ((HK1 _ b_21 _ H).pickP (ts := [4, 2]) (is := [0, 1]) rfl rfl (by decide) rfl)
     refine EAll.cons ?_ EAll.nil
     replace H := H.self
     replace H := H.2
     refine EOp.e rfl rfl rfl (EffX.mkS hT rfl rfl rfl rfl rfl rfl rfl rfl (by decide) H) ?_
     rintro _ _ ⟨v_59, h0u121, rfl, rfl, H⟩
     apply Stg.next [(17, _)] rfl rfl
     refine Stg.go [5] [6] rfl rfl (QAll.cons (QOp.p hT rfl rfl rfl rfl rfl) QAll.nil) ?_
     refine EAll.cons ?_ EAll.nil
     replace H := H.self
     refine EOp.e rfl rfl rfl (EffX.mkS hT rfl rfl rfl rfl rfl rfl rfl rfl (by decide) H) ?_
     rintro _ _ ⟨v_60, h0u123, rfl, rfl, H⟩
     apply Stg.next [(15, _), (18, _)] rfl rfl
     refine Stg.go [9] [11] rfl rfl (QAll.cons (QOp.q rfl rfl (Quiet1.build (cs := [_, _, _, _, _, _, _, _]) hT rfl rfl rfl rfl rfl rfl) rfl rfl) QAll.nil) ?_
     refine EAll.cons ?_ EAll.nil
     refine EOp.e rfl rfl rfl (EffX.storeSP (i := 0) (qv := [(_, [_, _, _, _, _, _, _, _]), (_, [_, _, _, _, _, _, _, _])]) hT rfl rfl rfl rfl rfl rfl rfl rfl rfl rfl) ?_
     rintro _ _ rfl
     apply Stg.next [] rfl rfl
     refine Stg.fin [] rfl rfl QAll.nil ?_
     replace H := H.self
     exact AtE.then_n ((HK1 _ b_21 _ H).pickP (ts := [4, 2]) (is := [0, 1]) rfl rfl (by decide) rfl)
    refine EAll.cons ?_ ?_
    ·
     replace H := H.self
     replace H := H.2.1
     refine EOp.e rfl rfl rfl (EffX.mkS hT rfl rfl rfl rfl rfl rfl rfl rfl (by decide) H) ?_
     rintro _ _ ⟨v_61, h0u125, rfl, rfl, H⟩
     apply Stg.next [(15, _)] rfl rfl
     refine Stg.go [0, 1, 7] [2, 8, 10] rfl rfl (QAll.cons (QOp.p hT rfl rfl rfl rfl rfl) (QAll.cons (QOp.p hT rfl rfl rfl rfl rfl) (QAll.cons (QOp.p hT rfl rfl rfl rfl rfl) QAll.nil))) ?_
     refine EAll.cons ?_ ?_
     ·
      replace H := H.self
      replace H := H.1
      refine EOp.e rfl rfl rfl (EffX.mkS hT rfl rfl rfl rfl rfl rfl rfl rfl (by decide) H) ?_
      rintro _ _ ⟨v_62, h0u127, rfl, rfl, H⟩
      apply Stg.next [(11, _)] rfl rfl
      refine Stg.go [7] [8, 10] rfl rfl (QAll.cons (QOp.p hT rfl rfl rfl rfl rfl) QAll.nil) ?_
      refine EAll.cons ?_ ?_
      ·
       replace H := H.self
       refine EOp.e rfl rfl rfl (EffX.mkS hT rfl rfl rfl rfl rfl rfl rfl rfl (by decide) H) ?_
       rintro _ _ ⟨v_63, h0u129, rfl, rfl, H⟩
       apply Stg.next [(17, _), (18, _)] rfl rfl
       refine Stg.go [9] [10] rfl rfl (QAll.cons (QOp.q rfl rfl (Quiet1.build (cs := [_, _, _, _, _, _, _, _]) hT rfl rfl rfl rfl rfl rfl) rfl rfl) QAll.nil) ?_
       refine EAll.cons ?_ EAll.nil
       refine EOp.e rfl rfl rfl (EffX.allocP (cs := [_, _, _, _, _, _, _, _]) hT rfl rfl H) ?_
       rintro _ _ ⟨b_22, _, rfl, rfl, he22, H⟩
       apply Stg.next [(4, _)] rfl rfl
       refine Stg.go [9] [11] rfl rfl (QAll.cons (QOp.q rfl rfl (Quiet1.build (cs := [_, _, _, _, _, _, _, _]) hT rfl rfl rfl rfl rfl rfl) rfl rfl) QAll.nil) ?_
       refine EAll.cons ?_ EAll.nil
       refine EOp.e rfl rfl rfl (EffX.storeSP (i := 0) (qv := [(_, [_, _, _, _, _, _, _, _]), (_, [_, _, _, _, _, _, _, _])]) hT rfl rfl rfl rfl rfl rfl rfl rfl rfl rfl) ?_
       rintro _ _ rfl
       apply Stg.next [] rfl rfl
       refine Stg.fin [] rfl rfl QAll.nil ?_
       replace H := H.self
       exact AtE.then_n ((HK1 _ b_22 _ H).pickP (ts := [4, 2]) (is := [0, 1]) rfl rfl (by decide) rfl)
      refine EAll.cons ?_ EAll.nil
      refine EOp.e rfl rfl rfl (EffX.allocP (cs := [_, _, _, _, _, _, _, _]) hT rfl rfl H) ?_
      rintro _ _ ⟨b_23, _, rfl, rfl, he23, H⟩
      apply Stg.next [(4, _)] rfl rfl
      refine Stg.go [7] [8] rfl rfl (QAll.cons (QOp.p hT rfl rfl rfl rfl rfl) QAll.nil) ?_
      refine EAll.cons ?_ EAll.nil
      replace H := H.self
      refine EOp.e rfl rfl rfl (EffX.mkS hT rfl rfl rfl rfl rfl rfl rfl rfl (by decide) H) ?_
      rintro _ _ ⟨v_64, h0u131, rfl, rfl, H⟩
      apply Stg.next [(17, _), (18, _)] rfl rfl
      refine Stg.go [9] [11] rfl rfl (QAll.cons (QOp.q rfl rfl (Quiet1.build (cs := [_, _, _, _, _, _, _, _]) hT rfl rfl rfl rfl rfl rfl) rfl rfl) QAll.nil) ?_
      refine EAll.cons ?_ EAll.nil
      refine EOp.e rfl rfl rfl (EffX.storeSP (i := 0) (qv := [(_, [_, _, _, _, _, _, _, _]), (_, [_, _, _, _, _, _, _, _])]) hT rfl rfl rfl rfl rfl rfl rfl rfl rfl rfl) ?_
      rintro _ _ rfl
      apply Stg.next [] rfl rfl
      refine Stg.fin [] rfl rfl QAll.nil ?_
      replace H := H.self
      exact AtE.then_n ((HK1 _ b_23 _ H).pickP (ts := [4, 2]) (is := [0, 1]) rfl rfl (by decide) rfl)
     refine EAll.cons ?_ ?_
     ·
      replace H := H.self
      replace H := H.2
      refine EOp.e rfl rfl rfl (EffX.mkS hT rfl rfl rfl rfl rfl rfl rfl rfl (by decide) H) ?_
      rintro _ _ ⟨v_65, h0u133, rfl, rfl, H⟩
      apply Stg.next [(17, _)] rfl rfl
      refine Stg.go [0, 1] [2, 10] rfl rfl (QAll.cons (QOp.p hT rfl rfl rfl rfl rfl) (QAll.cons (QOp.p hT rfl rfl rfl rfl rfl) QAll.nil)) ?_
      refine EAll.cons ?_ ?_
      ·
       replace H := H.self
       refine EOp.e rfl rfl rfl (EffX.mkS hT rfl rfl rfl rfl rfl rfl rfl rfl (by decide) H) ?_
       rintro _ _ ⟨v_66, h0u135, rfl, rfl, H⟩
       apply Stg.next [(11, _), (18, _)] rfl rfl
       refine Stg.go [9] [10] rfl rfl (QAll.cons (QOp.q rfl rfl (Quiet1.build (cs := [_, _, _, _, _, _, _, _]) hT rfl rfl rfl rfl rfl rfl) rfl rfl) QAll.nil) ?_
       refine EAll.cons ?_ EAll.nil
       refine EOp.e rfl rfl rfl (EffX.allocP (cs := [_, _, _, _, _, _, _, _]) hT rfl rfl H) ?_
       rintro _ _ ⟨b_24, _, rfl, rfl, he24, H⟩
       apply Stg.next [(4, _)] rfl rfl
       refine Stg.go [9] [11] rfl rfl (QAll.cons (QOp.q rfl rfl (Quiet1.build (cs := [_, _, _, _, _, _, _, _]) hT rfl rfl rfl rfl rfl rfl) rfl rfl) QAll.nil) ?_
       refine EAll.cons ?_ EAll.nil
       refine EOp.e rfl rfl rfl (EffX.storeSP (i := 0) (qv := [(_, [_, _, _, _, _, _, _, _]), (_, [_, _, _, _, _, _, _, _])]) hT rfl rfl rfl rfl rfl rfl rfl rfl rfl rfl) ?_
       rintro _ _ rfl
       apply Stg.next [] rfl rfl
       refine Stg.fin [] rfl rfl QAll.nil ?_
       replace H := H.self
       exact AtE.then_n ((HK1 _ b_24 _ H).pickP (ts := [4, 2]) (is := [0, 1]) rfl rfl (by decide) rfl)
      refine EAll.cons ?_ EAll.nil
      refine EOp.e rfl rfl rfl (EffX.allocP (cs := [_, _, _, _, _, _, _, _]) hT rfl rfl H) ?_
      rintro _ _ ⟨b_25, _, rfl, rfl, he25, H⟩
      apply Stg.next [(4, _)] rfl rfl
      refine Stg.go [0, 1] [2] rfl rfl (QAll.cons (QOp.p hT rfl rfl rfl rfl rfl) (QAll.cons (QOp.p hT rfl rfl rfl rfl rfl) QAll.nil)) ?_
      refine EAll.cons ?_ EAll.nil
      replace H := H.self
      refine EOp.e rfl rfl rfl (EffX.mkS hT rfl rfl rfl rfl rfl rfl rfl rfl (by decide) H) ?_
      rintro _ _ ⟨v_67, h0u137, rfl, rfl, H⟩
      apply Stg.next [(11, _), (18, _)] rfl rfl
      refine Stg.go [9] [11] rfl rfl (QAll.cons (QOp.q rfl rfl (Quiet1.build (cs := [_, _, _, _, _, _, _, _]) hT rfl rfl rfl rfl rfl rfl) rfl rfl) QAll.nil) ?_
      refine EAll.cons ?_ EAll.nil
      refine EOp.e rfl rfl rfl (EffX.storeSP (i := 0) (qv := [(_, [_, _, _, _, _, _, _, _]), (_, [_, _, _, _, _, _, _, _])]) hT rfl rfl rfl rfl rfl rfl rfl rfl rfl rfl) ?_
      rintro _ _ rfl
      apply Stg.next [] rfl rfl
      refine Stg.fin [] rfl rfl QAll.nil ?_
      replace H := H.self
      exact AtE.then_n ((HK1 _ b_25 _ H).pickP (ts := [4, 2]) (is := [0, 1]) rfl rfl (by decide) rfl)
     refine EAll.cons ?_ EAll.nil
     refine EOp.e rfl rfl rfl (EffX.allocP (cs := [_, _, _, _, _, _, _, _]) hT rfl rfl H) ?_
     rintro _ _ ⟨b_26, _, rfl, rfl, he26, H⟩
     apply Stg.next [(4, _)] rfl rfl
     refine Stg.go [0, 1, 7] [2, 8] rfl rfl (QAll.cons (QOp.p hT rfl rfl rfl rfl rfl) (QAll.cons (QOp.p hT rfl rfl rfl rfl rfl) (QAll.cons (QOp.p hT rfl rfl rfl rfl rfl) QAll.nil))) ?_
     refine EAll.cons ?_ ?_
     ·
      replace H := H.self
      replace H := H.1
      refine EOp.e rfl rfl rfl (EffX.mkS hT rfl rfl rfl rfl rfl rfl rfl rfl (by decide) H) ?_
      rintro _ _ ⟨v_68, h0u139, rfl, rfl, H⟩
      apply Stg.next [(11, _)] rfl rfl
      refine Stg.go [7] [8] rfl rfl (QAll.cons (QOp.p hT rfl rfl rfl rfl rfl) QAll.nil) ?_
      refine EAll.cons ?_ EAll.nil
      replace H := H.self
      refine EOp.e rfl rfl rfl (EffX.mkS hT rfl rfl rfl rfl rfl rfl rfl rfl (by decide) H) ?_
      rintro _ _ ⟨v_69, h0u141, rfl, rfl, H⟩
      apply Stg.next [(17, _), (18, _)] rfl rfl
      refine Stg.go [9] [11] rfl rfl (QAll.cons (QOp.q rfl rfl (Quiet1.build (cs := [_, _, _, _, _, _, _, _]) hT rfl rfl rfl rfl rfl rfl) rfl rfl) QAll.nil) ?_
      refine EAll.cons ?_ EAll.nil
      refine EOp.e rfl rfl rfl (EffX.storeSP (i := 0) (qv := [(_, [_, _, _, _, _, _, _, _]), (_, [_, _, _, _, _, _, _, _])]) hT rfl rfl rfl rfl rfl rfl rfl rfl rfl rfl) ?_
      rintro _ _ rfl
      apply Stg.next [] rfl rfl
      refine Stg.fin [] rfl rfl QAll.nil ?_
      replace H := H.self
      exact AtE.then_n ((HK1 _ b_26 _ H).pickP (ts := [4, 2]) (is := [0, 1]) rfl rfl (by decide) rfl)
     refine EAll.cons ?_ EAll.nil
     replace H := H.self
     replace H := H.2
     refine EOp.e rfl rfl rfl (EffX.mkS hT rfl rfl rfl rfl rfl rfl rfl rfl (by decide) H) ?_
     rintro _ _ ⟨v_70, h0u143, rfl, rfl, H⟩
     apply Stg.next [(17, _)] rfl rfl
     refine Stg.go [0, 1] [2] rfl rfl (QAll.cons (QOp.p hT rfl rfl rfl rfl rfl) (QAll.cons (QOp.p hT rfl rfl rfl rfl rfl) QAll.nil)) ?_
     refine EAll.cons ?_ EAll.nil
     replace H := H.self
     refine EOp.e rfl rfl rfl (EffX.mkS hT rfl rfl rfl rfl rfl rfl rfl rfl (by decide) H) ?_
     rintro _ _ ⟨v_71, h0u145, rfl, rfl, H⟩
     apply Stg.next [(11, _), (18, _)] rfl rfl
     refine Stg.go [9] [11] rfl rfl (QAll.cons (QOp.q rfl rfl (Quiet1.build (cs := [_, _, _, _, _, _, _, _]) hT rfl rfl rfl rfl rfl rfl) rfl rfl) QAll.nil) ?_
     refine EAll.cons ?_ EAll.nil
     refine EOp.e rfl rfl rfl (EffX.storeSP (i := 0) (qv := [(_, [_, _, _, _, _, _, _, _]), (_, [_, _, _, _, _, _, _, _])]) hT rfl rfl rfl rfl rfl rfl rfl rfl rfl rfl) ?_
     rintro _ _ rfl
     apply Stg.next [] rfl rfl
     refine Stg.fin [] rfl rfl QAll.nil ?_
     replace H := H.self
     exact AtE.then_n ((HK1 _ b_26 _ H).pickP (ts := [4, 2]) (is := [0, 1]) rfl rfl (by decide) rfl)
    refine EAll.cons ?_ ?_
    ·
     replace H := H.self
     replace H := H.2.2
     refine EOp.e rfl rfl rfl (EffX.mkS hT rfl rfl rfl rfl rfl rfl rfl rfl (by decide) H) ?_
     rintro _ _ ⟨v_72, h0u147, rfl, rfl, H⟩
     apply Stg.next [(17, _)] rfl rfl
     refine Stg.go [0, 1, 5] [2, 6, 10] rfl rfl (QAll.cons (QOp.p hT rfl rfl rfl rfl rfl) (QAll.cons (QOp.p hT rfl rfl rfl rfl rfl) (QAll.cons (QOp.p hT rfl rfl rfl rfl rfl) QAll.nil))) ?_
     refine EAll.cons ?_ ?_
     ·
      replace H := H.self
      replace H := H.1
      refine EOp.e rfl rfl rfl (EffX.mkS hT rfl rfl rfl rfl rfl rfl rfl rfl (by decide) H) ?_
      rintro _ _ ⟨v_73, h0u149, rfl, rfl, H⟩
      apply Stg.next [(11, _)] rfl rfl
      refine Stg.go [5] [6, 10] rfl rfl (QAll.cons (QOp.p hT rfl rfl rfl rfl rfl) QAll.nil) ?_
      refine EAll.cons ?_ ?_
      ·
       replace H := H.self
       refine EOp.e rfl rfl rfl (EffX.mkS hT rfl rfl rfl rfl rfl rfl rfl rfl (by decide) H) ?_
       rintro _ _ ⟨v_74, h0u151, rfl, rfl, H⟩
       apply Stg.next [(15, _), (18, _)] rfl rfl
       refine Stg.go [9] [10] rfl rfl (QAll.cons (QOp.q rfl rfl (Quiet1.build (cs := [_, _, _, _, _, _, _, _]) hT rfl rfl rfl rfl rfl rfl) rfl rfl) QAll.nil) ?_
       refine EAll.cons ?_ EAll.nil
       refine EOp.e rfl rfl rfl (EffX.allocP (cs := [_, _, _, _, _, _, _, _]) hT rfl rfl H) ?_
       rintro _ _ ⟨b_27, _, rfl, rfl, he27, H⟩
       apply Stg.next [(4, _)] rfl rfl
       refine Stg.go [9] [11] rfl rfl (QAll.cons (QOp.q rfl rfl (Quiet1.build (cs := [_, _, _, _, _, _, _, _]) hT rfl rfl rfl rfl rfl rfl) rfl rfl) QAll.nil) ?_
       refine EAll.cons ?_ EAll.nil
       refine EOp.e rfl rfl rfl (EffX.storeSP (i := 0) (qv := [(_, [_, _, _, _, _, _, _, _]), (_, [_, _, _, _, _, _, _, _])]) hT rfl rfl rfl rfl rfl rfl rfl rfl rfl rfl) ?_
       rintro _ _ rfl
       apply Stg.next [] rfl rfl
       refine Stg.fin [] rfl rfl QAll.nil ?_
       replace H := H.self
       exact AtE.then_n ((HK1 _ b_27 _ H).pickP (ts := [4, 2]) (is := [0, 1]) rfl rfl (by decide) rfl)
      refine EAll.cons ?_ EAll.nil
      refine EOp.e rfl rfl rfl (EffX.allocP (cs := [_, _, _, _, _, _, _, _]) hT rfl rfl H) ?_
      rintro _ _ ⟨b_28, _, rfl, rfl, he28, H⟩
      apply Stg.next [(4, _)] rfl rfl
      refine Stg.go [5] [6] rfl rfl (QAll.cons (QOp.p hT rfl rfl rfl rfl rfl) QAll.nil) ?_
      refine EAll.cons ?_ EAll.nil
      replace H := H.self
      refine EOp.e rfl rfl rfl (EffX.mkS hT rfl rfl rfl rfl rfl rfl rfl rfl (by decide) H) ?_
      rintro _ _ ⟨v_75, h0u153, rfl, rfl, H⟩
      apply Stg.next [(15, _), (18, _)] rfl rfl
      refine Stg.go [9] [11] rfl rfl (QAll.cons (QOp.q rfl rfl (Quiet1.build (cs := [_, _, _, _, _, _, _, _]) hT rfl rfl rfl rfl rfl rfl) rfl rfl) QAll.nil) ?_
      refine EAll.cons ?_ EAll.nil
      refine EOp.e rfl rfl rfl (EffX.storeSP (i := 0) (qv := [(_, [_, _, _, _, _, _, _, _]), (_, [_, _, _, _, _, _, _, _])]) hT rfl rfl rfl rfl rfl rfl rfl rfl rfl rfl) ?_
      rintro _ _ rfl
      apply Stg.next [] rfl rfl
      refine Stg.fin [] rfl rfl QAll.nil ?_
      replace H := H.self
      exact AtE.then_n ((HK1 _ b_28 _ H).pickP (ts := [4, 2]) (is := [0, 1]) rfl rfl (by decide) rfl)
     refine EAll.cons ?_ ?_
     ·
      replace H := H.self
      replace H := H.2
      refine EOp.e rfl rfl rfl (EffX.mkS hT rfl rfl rfl rfl rfl rfl rfl rfl (by decide) H) ?_
      rintro _ _ ⟨v_76, h0u155, rfl, rfl, H⟩
      apply Stg.next [(15, _)] rfl rfl
      refine Stg.go [0, 1] [2, 10] rfl rfl (QAll.cons (QOp.p hT rfl rfl rfl rfl rfl) (QAll.cons (QOp.p hT rfl rfl rfl rfl rfl) QAll.nil)) ?_
      refine EAll.cons ?_ ?_
      ·
       replace H := H.self
       refine EOp.e rfl rfl rfl (EffX.mkS hT rfl rfl rfl rfl rfl rfl rfl rfl (by decide) H) ?_
       rintro _ _ ⟨v_77, h0u157, rfl, rfl, H⟩
       apply Stg.next [(11, _), (18, _)] rfl rfl
       refine Stg.go [9] [10] rfl rfl (QAll.cons (QOp.q rfl rfl (Quiet1.build (cs := [_, _, _, _, _, _, _, _]) hT rfl rfl rfl rfl rfl rfl) rfl rfl) QAll.nil) ?_
       refine EAll.cons ?_ EAll.nil
       refine EOp.e rfl rfl rfl (EffX.allocP (cs := [_, _, _, _, _, _, _, _]) hT rfl rfl H) ?_
       rintro _ _ ⟨b_29, _, rfl, rfl, he29, H⟩
       apply Stg.next [(4, _)] rfl rfl
       refine Stg.go [9] [11] rfl rfl (QAll.cons (QOp.q rfl rfl (Quiet1.build (cs := [_, _, _, _, _, _, _, _]) hT rfl rfl rfl rfl rfl rfl) rfl rfl) QAll.nil) ?_
       refine EAll.cons ?_ EAll.nil
       refine EOp.e rfl rfl rfl (EffX.storeSP (i := 0) (qv := [(_, [_, _, _, _, _, _, _, _]), (_, [_, _, _, _, _, _, _, _])]) hT rfl rfl rfl rfl rfl rfl rfl rfl rfl rfl) ?_
       rintro _ _ rfl
       apply Stg.next [] rfl rfl
       refine Stg.fin [] rfl rfl QAll.nil ?_
       replace H := H.self
       exact AtE.then_n ((HK1 _ b_29 _ H).pickP (ts := [4, 2]) (is := [0, 1]) rfl rfl (by decide) rfl)
      refine EAll.cons ?_ EAll.nil
      refine EOp.e rfl rfl rfl (EffX.allocP (cs := [_, _, _, _, _, _, _, _]) hT rfl rfl H) ?_
      rintro _ _ ⟨b_30, _, rfl, rfl, he30, H⟩
      apply Stg.next [(4, _)] rfl rfl
      refine Stg.go [0, 1] [2] rfl rfl (QAll.cons (QOp.p hT rfl rfl rfl rfl rfl) (QAll.cons (QOp.p hT rfl rfl rfl rfl rfl) QAll.nil)) ?_
      refine EAll.cons ?_ EAll.nil
      replace H := H.self
      refine EOp.e rfl rfl rfl (EffX.mkS hT rfl rfl rfl rfl rfl rfl rfl rfl (by decide) H) ?_
      rintro _ _ ⟨v_78, h0u159, rfl, rfl, H⟩
      apply Stg.next [(11, _), (18, _)] rfl rfl
      refine Stg.go [9] [11] rfl rfl (QAll.cons (QOp.q rfl rfl (Quiet1.build (cs := [_, _, _, _, _, _, _, _]) hT rfl rfl rfl rfl rfl rfl) rfl rfl) QAll.nil) ?_
      refine EAll.cons ?_ EAll.nil
      refine EOp.e rfl rfl rfl (EffX.storeSP (i := 0) (qv := [(_, [_, _, _, _, _, _, _, _]), (_, [_, _, _, _, _, _, _, _])]) hT rfl rfl rfl rfl rfl rfl rfl rfl rfl rfl) ?_
      rintro _ _ rfl
      apply Stg.next [] rfl rfl
      refine Stg.fin [] rfl rfl QAll.nil ?_
      replace H := H.self
      exact AtE.then_n ((HK1 _ b_30 _ H).pickP (ts := [4, 2]) (is := [0, 1]) rfl rfl (by decide) rfl)
     refine EAll.cons ?_ EAll.nil
     refine EOp.e rfl rfl rfl (EffX.allocP (cs := [_, _, _, _, _, _, _, _]) hT rfl rfl H) ?_
     rintro _ _ ⟨b_31, _, rfl, rfl, he31, H⟩
     apply Stg.next [(4, _)] rfl rfl
     refine Stg.go [0, 1, 5] [2, 6] rfl rfl (QAll.cons (QOp.p hT rfl rfl rfl rfl rfl) (QAll.cons (QOp.p hT rfl rfl rfl rfl rfl) (QAll.cons (QOp.p hT rfl rfl rfl rfl rfl) QAll.nil))) ?_
     refine EAll.cons ?_ ?_
     ·
      replace H := H.self
      replace H := H.1
      refine EOp.e rfl rfl rfl (EffX.mkS hT rfl rfl rfl rfl rfl rfl rfl rfl (by decide) H) ?_
      rintro _ _ ⟨v_79, h0u161, rfl, rfl, H⟩
      apply Stg.next [(11, _)] rfl rfl
      refine Stg.go [5] [6] rfl rfl (QAll.cons (QOp.p hT rfl rfl rfl rfl rfl) QAll.nil) ?_
      refine EAll.cons ?_ EAll.nil
      replace H := H.self
      refine EOp.e rfl rfl rfl (EffX.mkS hT rfl rfl rfl rfl rfl rfl rfl rfl (by decide) H) ?_
      rintro _ _ ⟨v_80, h0u163, rfl, rfl, H⟩
      apply Stg.next [(15, _), (18, _)] rfl rfl
      refine Stg.go [9] [11] rfl rfl (QAll.cons (QOp.q rfl rfl (Quiet1.build (cs := [_, _, _, _, _, _, _, _]) hT rfl rfl rfl rfl rfl rfl) rfl rfl) QAll.nil) ?_
      refine EAll.cons ?_ EAll.nil
      refine EOp.e rfl rfl rfl (EffX.storeSP (i := 0) (qv := [(_, [_, _, _, _, _, _, _, _]), (_, [_, _, _, _, _, _, _, _])]) hT rfl rfl rfl rfl rfl rfl rfl rfl rfl rfl) ?_
      rintro _ _ rfl
      apply Stg.next [] rfl rfl
      refine Stg.fin [] rfl rfl QAll.nil ?_
      replace H := H.self
      exact AtE.then_n ((HK1 _ b_31 _ H).pickP (ts := [4, 2]) (is := [0, 1]) rfl rfl (by decide) rfl)
     refine EAll.cons ?_ EAll.nil
     replace H := H.self
     replace H := H.2
     refine EOp.e rfl rfl rfl (EffX.mkS hT rfl rfl rfl rfl rfl rfl rfl rfl (by decide) H) ?_
     rintro _ _ ⟨v_81, h0u165, rfl, rfl, H⟩
     apply Stg.next [(15, _)] rfl rfl
     refine Stg.go [0, 1] [2] rfl rfl (QAll.cons (QOp.p hT rfl rfl rfl rfl rfl) (QAll.cons (QOp.p hT rfl rfl rfl rfl rfl) QAll.nil)) ?_
     refine EAll.cons ?_ EAll.nil
     replace H := H.self
     refine EOp.e rfl rfl rfl (EffX.mkS hT rfl rfl rfl rfl rfl rfl rfl rfl (by decide) H) ?_
     rintro _ _ ⟨v_82, h0u167, rfl, rfl, H⟩
     apply Stg.next [(11, _), (18, _)] rfl rfl
     refine Stg.go [9] [11] rfl rfl (QAll.cons (QOp.q rfl rfl (Quiet1.build (cs := [_, _, _, _, _, _, _, _]) hT rfl rfl rfl rfl rfl rfl) rfl rfl) QAll.nil) ?_
     refine EAll.cons ?_ EAll.nil
     refine EOp.e rfl rfl rfl (EffX.storeSP (i := 0) (qv := [(_, [_, _, _, _, _, _, _, _]), (_, [_, _, _, _, _, _, _, _])]) hT rfl rfl rfl rfl rfl rfl rfl rfl rfl rfl) ?_
     rintro _ _ rfl
     apply Stg.next [] rfl rfl
     refine Stg.fin [] rfl rfl QAll.nil ?_
     replace H := H.self
     exact AtE.then_n ((HK1 _ b_31 _ H).pickP (ts := [4, 2]) (is := [0, 1]) rfl rfl (by decide) rfl)
    refine EAll.cons ?_ EAll.nil
    refine EOp.e rfl rfl rfl (EffX.allocP (cs := [_, _, _, _, _, _, _, _]) hT rfl rfl H) ?_
    rintro _ _ ⟨b_32, _, rfl, rfl, he32, H⟩
    apply Stg.next [(4, _)] rfl rfl
    refine Stg.go [0, 1, 5, 7] [2, 6, 8] rfl rfl (QAll.cons (QOp.p hT rfl rfl rfl rfl rfl) (QAll.cons (QOp.p hT rfl rfl rfl rfl rfl) (QAll.cons (QOp.p hT rfl rfl rfl rfl rfl) (QAll.cons (QOp.p hT rfl rfl rfl rfl rfl) QAll.nil)))) ?_
    refine EAll.cons ?_ ?_
    ·
     replace H := H.self
     replace H := H.1
     refine EOp.e rfl rfl rfl (EffX.mkS hT rfl rfl rfl rfl rfl rfl rfl rfl (by decide) H) ?_
     rintro _ _ ⟨v_83, h0u169, rfl, rfl, H⟩
     apply Stg.next [(11, _)] rfl rfl
     refine Stg.go [5, 7] [6, 8] rfl rfl (QAll.cons (QOp.p hT rfl rfl rfl rfl rfl) (QAll.cons (QOp.p hT rfl rfl rfl rfl rfl) QAll.nil)) ?_
     refine EAll.cons ?_ ?_
     ·
      replace H := H.self
      replace H := H.1
      refine EOp.e rfl rfl rfl (EffX.mkS hT rfl rfl rfl rfl rfl rfl rfl rfl (by decide) H) ?_
      rintro _ _ ⟨v_84, h0u171, rfl, rfl, H⟩
      apply Stg.next [(15, _)] rfl rfl
      refine Stg.go [7] [8] rfl rfl (QAll.cons (QOp.p hT rfl rfl rfl rfl rfl) QAll.nil) ?_
      refine EAll.cons ?_ EAll.nil
      replace H := H.self
      refine EOp.e rfl rfl rfl (EffX.mkS hT rfl rfl rfl rfl rfl rfl rfl rfl (by decide) H) ?_
      rintro _ _ ⟨v_85, h0u173, rfl, rfl, H⟩
      apply Stg.next [(17, _), (18, _)] rfl rfl
      refine Stg.go [9] [11] rfl rfl (QAll.cons (QOp.q rfl rfl (Quiet1.build (cs := [_, _, _, _, _, _, _, _]) hT rfl rfl rfl rfl rfl rfl) rfl rfl) QAll.nil) ?_
      refine EAll.cons ?_ EAll.nil
      refine EOp.e rfl rfl rfl (EffX.storeSP (i := 0) (qv := [(_, [_, _, _, _, _, _, _, _]), (_, [_, _, _, _, _, _, _, _])]) hT rfl rfl rfl rfl rfl rfl rfl rfl rfl rfl) ?_
      rintro _ _ rfl
      apply Stg.next [] rfl rfl
      refine Stg.fin [] rfl rfl QAll.nil ?_
      replace H := H.self
      exact AtE.then_n ((HK1 _ b_32 _ H).pickP (ts := [4, 2]) (is := [0, 1]) rfl rfl (by decide) rfl)
     refine EAll.cons ?_ EAll.nil
     replace H := H.self
     replace H := H.2
     refine EOp.e rfl rfl rfl (EffX.mkS hT rfl rfl rfl rfl rfl rfl rfl rfl (by decide) H) ?_
     rintro _ _ ⟨v_86, h0u175, rfl, rfl, H⟩
     apply Stg.next [(17, _)] rfl rfl
     refine Stg.go [5] [6] rfl rfl (QAll.cons (QOp.p hT rfl rfl rfl rfl rfl) QAll.nil) ?_
     refine EAll.cons ?_ EAll.nil
     replace H := H.self
     refine EOp.e rfl rfl rfl (EffX.mkS hT rfl rfl rfl rfl rfl rfl rfl rfl (by decide) H) ?_
     rintro _ _ ⟨v_87, h0u177, rfl, rfl, H⟩
     apply Stg.next [(15, _), (18, _)] rfl rfl
     refine Stg.go [9] [11] rfl rfl (QAll.cons (QOp.q rfl rfl (Quiet1.build (cs := [_, _, _, _, _, _, _, _]) hT rfl rfl rfl rfl rfl rfl) rfl rfl) QAll.nil) ?_
     refine EAll.cons ?_ EAll.nil
     refine EOp.e rfl rfl rfl (EffX.storeSP (i := 0) (qv := [(_, [_, _, _, _, _, _, _, _]), (_, [_, _, _, _, _, _, _, _])]) hT rfl rfl rfl rfl rfl rfl rfl rfl rfl rfl) ?_
     rintro _ _ rfl
     apply Stg.next [] rfl rfl
     refine Stg.fin [] rfl rfl QAll.nil ?_
     replace H := H.self
     exact AtE.then_n ((HK1 _ b_32 _ H).pickP (ts := [4, 2]) (is := [0, 1]) rfl rfl (by decide) rfl)
    refine EAll.cons ?_ ?_
    ·
     replace H := H.self
     replace H := H.2.1
     refine EOp.e rfl rfl rfl (EffX.mkS hT rfl rfl rfl rfl rfl rfl rfl rfl (by decide) H) ?_
     rintro _ _ ⟨v_88, h0u179, rfl, rfl, H⟩
     apply Stg.next [(15, _)] rfl rfl
     refine Stg.go [0, 1, 7] [2, 8] rfl rfl (QAll.cons (QOp.p hT rfl rfl rfl rfl rfl) (QAll.cons (QOp.p hT rfl rfl rfl rfl rfl) (QAll.cons (QOp.p hT rfl rfl rfl rfl rfl) QAll.nil))) ?_
     refine EAll.cons ?_ ?_
     ·
      replace H := H.self
      replace H := H.1
      refine EOp.e rfl rfl rfl (EffX.mkS hT rfl rfl rfl rfl rfl rfl rfl rfl (by decide) H) ?_
      rintro _ _ ⟨v_89, h0u181, rfl, rfl, H⟩
      apply Stg.next [(11, _)] rfl rfl
      refine Stg.go [7] [8] rfl rfl (QAll.cons (QOp.p hT rfl rfl rfl rfl rfl) QAll.nil) ?_
      refine EAll.cons ?_ EAll.nil
      replace H := H.self
      refine EOp.e rfl rfl rfl (EffX.mkS hT rfl rfl rfl rfl rfl rfl rfl rfl (by decide) H) ?_
      rintro _ _ ⟨v_90, h0u183, rfl, rfl, H⟩
      apply Stg.next [(17, _), (18, _)] rfl rfl
      refine Stg.go [9] [11] rfl rfl (QAll.cons (QOp.q rfl rfl (Quiet1.build (cs := [_, _, _, _, _, _, _, _]) hT rfl rfl rfl rfl rfl rfl) rfl rfl) QAll.nil) ?_
      refine EAll.cons ?_ EAll.nil
      refine EOp.e rfl rfl rfl (EffX.storeSP (i := 0) (qv := [(_, [_, _, _, _, _, _, _, _]), (_, [_, _, _, _, _, _, _, _])]) hT rfl rfl rfl rfl rfl rfl rfl rfl rfl rfl) ?_
      rintro _ _ rfl
      apply Stg.next [] rfl rfl
      refine Stg.fin [] rfl rfl QAll.nil ?_
      replace H := H.self
      exact AtE.then_n ((HK1 _ b_32 _ H).pickP (ts := [4, 2]) (is := [0, 1]) rfl rfl (by decide) rfl)
     refine EAll.cons ?_ EAll.nil
     replace H := H.self
     replace H := H.2
     refine EOp.e rfl rfl rfl (EffX.mkS hT rfl rfl rfl rfl rfl rfl rfl rfl (by decide) H) ?_
     rintro _ _ ⟨v_91, h0u185, rfl, rfl, H⟩
     apply Stg.next [(17, _)] rfl rfl
     refine Stg.go [0, 1] [2] rfl rfl (QAll.cons (QOp.p hT rfl rfl rfl rfl rfl) (QAll.cons (QOp.p hT rfl rfl rfl rfl rfl) QAll.nil)) ?_
     refine EAll.cons ?_ EAll.nil
     replace H := H.self
     refine EOp.e rfl rfl rfl (EffX.mkS hT rfl rfl rfl rfl rfl rfl rfl rfl (by decide) H) ?_
     rintro _ _ ⟨v_92, h0u187, rfl, rfl, H⟩
     apply Stg.next [(11, _), (18, _)] rfl rfl
     refine Stg.go [9] [11] rfl rfl (QAll.cons (QOp.q rfl rfl (Quiet1.build (cs := [_, _, _, _, _, _, _, _]) hT rfl rfl rfl rfl rfl rfl) rfl rfl) QAll.nil) ?_
     refine EAll.cons ?_ EAll.nil
     refine EOp.e rfl rfl rfl (EffX.storeSP (i := 0) (qv := [(_, [_, _, _, _, _, _, _, _]), (_, [_, _, _, _, _, _, _, _])]) hT rfl rfl rfl rfl rfl rfl rfl rfl rfl rfl) ?_
     rintro _ _ rfl
     apply Stg.next [] rfl rfl
     refine Stg.fin [] rfl rfl QAll.nil ?_
     replace H := H.self
     exact AtE.then_n ((HK1 _ b_32 _ H).pickP (ts := [4, 2]) (is := [0, 1]) rfl rfl (by decide) rfl)
    refine EAll.cons ?_ EAll.nil
    replace H := H.self
    replace H := H.2.2
    refine EOp.e rfl rfl rfl (EffX.mkS hT rfl rfl rfl rfl rfl rfl rfl rfl (by decide) H) ?_
    rintro _ _ ⟨v_93, h0u189, rfl, rfl, H⟩
    apply Stg.next [(17, _)] rfl rfl
    refine Stg.go [0, 1, 5] [2, 6] rfl rfl (QAll.cons (QOp.p hT rfl rfl rfl rfl rfl) (QAll.cons (QOp.p hT rfl rfl rfl rfl rfl) (QAll.cons (QOp.p hT rfl rfl rfl rfl rfl) QAll.nil))) ?_
    refine EAll.cons ?_ ?_
    ·
     replace H := H.self
     replace H := H.1
     refine EOp.e rfl rfl rfl (EffX.mkS hT rfl rfl rfl rfl rfl rfl rfl rfl (by decide) H) ?_
     rintro _ _ ⟨v_94, h0u191, rfl, rfl, H⟩
     apply Stg.next [(11, _)] rfl rfl
     refine Stg.go [5] [6] rfl rfl (QAll.cons (QOp.p hT rfl rfl rfl rfl rfl) QAll.nil) ?_
     refine EAll.cons ?_ EAll.nil
     replace H := H.self
     refine EOp.e rfl rfl rfl (EffX.mkS hT rfl rfl rfl rfl rfl rfl rfl rfl (by decide) H) ?_
     rintro _ _ ⟨v_95, h0u193, rfl, rfl, H⟩
     apply Stg.next [(15, _), (18, _)] rfl rfl
     refine Stg.go [9] [11] rfl rfl (QAll.cons (QOp.q rfl rfl (Quiet1.build (cs := [_, _, _, _, _, _, _, _]) hT rfl rfl rfl rfl rfl rfl) rfl rfl) QAll.nil) ?_
     refine EAll.cons ?_ EAll.nil
     refine EOp.e rfl rfl rfl (EffX.storeSP (i := 0) (qv := [(_, [_, _, _, _, _, _, _, _]), (_, [_, _, _, _, _, _, _, _])]) hT rfl rfl rfl rfl rfl rfl rfl rfl rfl rfl) ?_
     rintro _ _ rfl
     apply Stg.next [] rfl rfl
     refine Stg.fin [] rfl rfl QAll.nil ?_
     replace H := H.self
     exact AtE.then_n ((HK1 _ b_32 _ H).pickP (ts := [4, 2]) (is := [0, 1]) rfl rfl (by decide) rfl)
    refine EAll.cons ?_ EAll.nil
    replace H := H.self
    replace H := H.2
    refine EOp.e rfl rfl rfl (EffX.mkS hT rfl rfl rfl rfl rfl rfl rfl rfl (by decide) H) ?_
    rintro _ _ ⟨v_96, h0u195, rfl, rfl, H⟩
    apply Stg.next [(15, _)] rfl rfl
    refine Stg.go [0, 1] [2] rfl rfl (QAll.cons (QOp.p hT rfl rfl rfl rfl rfl) (QAll.cons (QOp.p hT rfl rfl rfl rfl rfl) QAll.nil)) ?_
    refine EAll.cons ?_ EAll.nil
    replace H := H.self
    refine EOp.e rfl rfl rfl (EffX.mkS hT rfl rfl rfl rfl rfl rfl rfl rfl (by decide) H) ?_
    rintro _ _ ⟨v_97, h0u197, rfl, rfl, H⟩
    apply Stg.next [(11, _), (18, _)] rfl rfl
    refine Stg.go [9] [11] rfl rfl (QAll.cons (QOp.q rfl rfl (Quiet1.build (cs := [_, _, _, _, _, _, _, _]) hT rfl rfl rfl rfl rfl rfl) rfl rfl) QAll.nil) ?_
    refine EAll.cons ?_ EAll.nil
    refine EOp.e rfl rfl rfl (EffX.storeSP (i := 0) (qv := [(_, [_, _, _, _, _, _, _, _]), (_, [_, _, _, _, _, _, _, _])]) hT rfl rfl rfl rfl rfl rfl rfl rfl rfl rfl) ?_
    rintro _ _ rfl
    apply Stg.next [] rfl rfl
    refine Stg.fin [] rfl rfl QAll.nil ?_
    replace H := H.self
    exact AtE.then_n ((HK1 _ b_32 _ H).pickP (ts := [4, 2]) (is := [0, 1]) rfl rfl (by decide) rfl)
   refine EAll.cons ?_ ?_
   ·
    replace H := H.self
    replace H := H.2.2.1
    refine EOp.e rfl rfl rfl (EffX.mkS hT rfl rfl rfl rfl rfl rfl rfl rfl (by decide) H) ?_
    rintro _ _ ⟨v_98, h0u199, rfl, rfl, H⟩
    apply Stg.next [(15, _)] rfl rfl
    refine Stg.go [0, 1, 3, 7] [2, 4, 8, 10] rfl rfl (QAll.cons (QOp.p hT rfl rfl rfl rfl rfl) (QAll.cons (QOp.p hT rfl rfl rfl rfl rfl) (QAll.cons (QOp.p hT rfl rfl rfl rfl rfl) (QAll.cons (QOp.p hT rfl rfl rfl rfl rfl) QAll.nil)))) ?_
    refine EAll.cons ?_ ?_
    ·
     replace H := H.self
     replace H := H.1
     refine EOp.e rfl rfl rfl (EffX.mkS hT rfl rfl rfl rfl rfl rfl rfl rfl (by decide) H) ?_
     rintro _ _ ⟨v_99, h0u201, rfl, rfl, H⟩
     apply Stg.next [(11, _)] rfl rfl
     refine Stg.go [3, 7] [4, 8, 10] rfl rfl (QAll.cons (QOp.p hT rfl rfl rfl rfl rfl) (QAll.cons (QOp.p hT rfl rfl rfl rfl rfl) QAll.nil)) ?_
     refine EAll.cons ?_ ?_
     ·
      replace H := H.self
      replace H := H.1
      refine EOp.e rfl rfl rfl (EffX.mkS hT rfl rfl rfl rfl rfl rfl rfl rfl (by decide) H) ?_
      rintro _ _ ⟨v_100, h0u203, rfl, rfl, H⟩
      apply Stg.next [(13, _)] rfl rfl
      refine Stg.go [7] [8, 10] rfl rfl (QAll.cons (QOp.p hT rfl rfl rfl rfl rfl) QAll.nil) ?_
      refine EAll.cons ?_ ?_
      ·
       replace H := H.self
       refine EOp.e rfl rfl rfl (EffX.mkS hT rfl rfl rfl rfl rfl rfl rfl rfl (by decide) H) ?_
       rintro _ _ ⟨v_101, h0u205, rfl, rfl, H⟩
       apply Stg.next [(17, _), (18, _)] rfl rfl
       refine Stg.go [9] [10] rfl rfl (QAll.cons (QOp.q rfl rfl (Quiet1.build (cs := [_, _, _, _, _, _, _, _]) hT rfl rfl rfl rfl rfl rfl) rfl rfl) QAll.nil) ?_
       refine EAll.cons ?_ EAll.nil
       refine EOp.e rfl rfl rfl (EffX.allocP (cs := [_, _, _, _, _, _, _, _]) hT rfl rfl H) ?_
       rintro _ _ ⟨b_33, _, rfl, rfl, he33, H⟩
       apply Stg.next [(4, _)] rfl rfl
       refine Stg.go [9] [11] rfl rfl (QAll.cons (QOp.q rfl rfl (Quiet1.build (cs := [_, _, _, _, _, _, _, _]) hT rfl rfl rfl rfl rfl rfl) rfl rfl) QAll.nil) ?_
       refine EAll.cons ?_ EAll.nil
       refine EOp.e rfl rfl rfl (EffX.storeSP (i := 0) (qv := [(_, [_, _, _, _, _, _, _, _]), (_, [_, _, _, _, _, _, _, _])]) hT rfl rfl rfl rfl rfl rfl rfl rfl rfl rfl) ?_
       rintro _ _ rfl
       apply Stg.next [] rfl rfl
       refine Stg.fin [] rfl rfl QAll.nil ?_
       replace H := H.self
       exact AtE.then_n ((HK1 _ b_33 _ H).pickP (ts := [4, 2]) (is := [0, 1]) rfl rfl (by decide) rfl)
      refine EAll.cons ?_ EAll.nil
      refine EOp.e rfl rfl rfl (EffX.allocP (cs := [_, _, _, _, _, _, _, _]) hT rfl rfl H) ?_
      rintro _ _ ⟨b_34, _, rfl, rfl, he34, H⟩
      apply Stg.next [(4, _)] rfl rfl
      refine Stg.go [7] [8] rfl rfl (QAll.cons (QOp.p hT rfl rfl rfl rfl rfl) QAll.nil) ?_
      refine EAll.cons ?_ EAll.nil
      replace H := H.self
      refine EOp.e rfl rfl rfl (EffX.mkS hT rfl rfl rfl rfl rfl rfl rfl rfl (by decide) H) ?_
      rintro _ _ ⟨v_102, h0u207, rfl, rfl, H⟩
      apply Stg.next [(17, _), (18, _)] rfl rfl
      refine Stg.go [9] [11] rfl rfl (QAll.cons (QOp.q rfl rfl (Quiet1.build (cs := [_, _, _, _, _, _, _, _]) hT rfl rfl rfl rfl rfl rfl) rfl rfl) QAll.nil) ?_
      refine EAll.cons ?_ EAll.nil
      refine EOp.e rfl rfl rfl (EffX.storeSP (i := 0) (qv := [(_, [_, _, _, _, _, _, _, _]), (_, [_, _, _, _, _, _, _, _])]) hT rfl rfl rfl rfl rfl rfl rfl rfl rfl rfl) ?_
      rintro _ _ rfl
      apply Stg.next [] rfl rfl
      refine Stg.fin [] rfl rfl QAll.nil ?_
      replace H := H.self
      exact AtE.then_n ((HK1 _ b_34 _ H).pickP (ts := [4, 2]) (is := [0, 1]) rfl rfl (by decide) rfl)
     refine EAll.cons ?_ ?_
     ·
      replace H := H.self
      replace H := H.2
      refine EOp.e rfl rfl rfl (EffX.mkS hT rfl rfl rfl rfl rfl rfl rfl rfl (by decide) H) ?_
      rintro _ _ ⟨v_103, h0u209, rfl, rfl, H⟩
      apply Stg.next [(17, _)] rfl rfl
      refine Stg.go [3] [4, 10] rfl rfl (QAll.cons (QOp.p hT rfl rfl rfl rfl rfl) QAll.nil) ?_
      refine EAll.cons ?_ ?_
      ·
       replace H := H.self
       refine EOp.e rfl rfl rfl (EffX.mkS hT rfl rfl rfl rfl rfl rfl rfl rfl (by decide) H) ?_
       rintro _ _ ⟨v_104, h0u211, rfl, rfl, H⟩
       apply Stg.next [(13, _), (18, _)] rfl rfl
       refine Stg.go [9] [10] rfl rfl (QAll.cons (QOp.q rfl rfl (Quiet1.build (cs := [_, _, _, _, _, _, _, _]) hT rfl rfl rfl rfl rfl rfl) rfl rfl) QAll.nil) ?_
       refine EAll.cons ?_ EAll.nil
       refine EOp.e rfl rfl rfl (EffX.allocP (cs := [_, _, _, _, _, _, _, _]) hT rfl rfl H) ?_
       rintro _ _ ⟨b_35, _, rfl, rfl, he35, H⟩
       apply Stg.next [(4, _)] rfl rfl
       refine Stg.go [9] [11] rfl rfl (QAll.cons (QOp.q rfl rfl (Quiet1.build (cs := [_, _, _, _, _, _, _, _]) hT rfl rfl rfl rfl rfl rfl) rfl rfl) QAll.nil) ?_
       refine EAll.cons ?_ EAll.nil
       refine EOp.e rfl rfl rfl (EffX.storeSP (i := 0) (qv := [(_, [_, _, _, _, _, _, _, _]), (_, [_, _, _, _, _, _, _, _])]) hT rfl rfl rfl rfl rfl rfl rfl rfl rfl rfl) ?_
       rintro _ _ rfl
       apply Stg.next [] rfl rfl
       refine Stg.fin [] rfl rfl QAll.nil ?_
       replace H := H.self
       exact AtE.then_n ((HK1 _ b_35 _ H).pickP (ts := [4, 2]) (is := [0, 1]) rfl rfl (by decide) rfl)
      refine EAll.cons ?_ EAll.nil
      refine EOp.e rfl rfl rfl (EffX.allocP (cs := [_, _, _, _, _, _, _, _]) hT rfl rfl H) ?_
      rintro _ _ ⟨b_36, _, rfl, rfl, he36, H⟩
      apply Stg.next [(4, _)] rfl rfl
      refine Stg.go [3] [4] rfl rfl (QAll.cons (QOp.p hT rfl rfl rfl rfl rfl) QAll.nil) ?_
      refine EAll.cons ?_ EAll.nil
      replace H := H.self
      refine EOp.e rfl rfl rfl (EffX.mkS hT rfl rfl rfl rfl rfl rfl rfl rfl (by decide) H) ?_
      rintro _ _ ⟨v_105, h0u213, rfl, rfl, H⟩
      apply Stg.next [(13, _), (18, _)] rfl rfl
      refine Stg.go [9] [11] rfl rfl (QAll.cons (QOp.q rfl rfl (Quiet1.build (cs := [_, _, _, _, _, _, _, _]) hT rfl rfl rfl rfl rfl rfl) rfl rfl) QAll.nil) ?_
      refine EAll.cons ?_ EAll.nil
      refine EOp.e rfl rfl rfl (EffX.storeSP (i := 0) (qv := [(_, [_, _, _, _, _, _, _, _]), (_, [_, _, _, _, _, _, _, _])]) hT rfl rfl rfl rfl rfl rfl rfl rfl rfl rfl) ?_
      rintro _ _ rfl
      apply Stg.next [] rfl rfl
      refine Stg.fin [] rfl rfl QAll.nil ?_
      replace H := H.self
      exact AtE.then_n ((HK1 _ b_36 _ H).pickP (ts := [4, 2]) (is := [0, 1]) rfl rfl (by decide) rfl)
     refine EAll.cons ?_ EAll.nil
     refine EOp.e rfl rfl rfl (EffX.allocP (cs := [_, _, _, _, _, _, _, _]) hT rfl rfl H) ?_
     rintro _ _ ⟨b_37, _, rfl, rfl, he37, H⟩
     apply Stg.next [(4, _)] rfl rfl
     refine Stg.go [3, 7] [4, 8] rfl rfl (QAll.cons (QOp.p hT rfl rfl rfl rfl rfl) (QAll.cons (QOp.p hT rfl rfl rfl rfl rfl) QAll.nil)) ?_
     refine EAll.cons ?_ ?_
     ·
      replace H := H.self
      replace H := H.1
      refine EOp.e rfl rfl rfl (EffX.mkS hT rfl rfl rfl rfl rfl rfl rfl rfl (by decide) H) ?_
      rintro _ _ ⟨v_106, h0u215, rfl, rfl, H⟩
      apply Stg.next [(13, _)] rfl rfl
      refine Stg.go [7] [8] rfl rfl (QAll.cons (QOp.p hT rfl rfl rfl rfl rfl) QAll.nil) ?_
      refine EAll.cons ?_ EAll.nil
      replace H := H.self
      refine EOp.e rfl rfl rfl (EffX.mkS hT rfl rfl rfl rfl rfl rfl rfl rfl (by decide) H) ?_
      rintro _ _ ⟨v_107, h0u217, rfl, rfl, H⟩
      apply Stg.next [(17, _), (18, _)] rfl rfl
      refine Stg.go [9] [11] rfl rfl (QAll.cons (QOp.q rfl rfl (Quiet1.build (cs := [_, _, _, _, _, _, _, _]) hT rfl rfl rfl rfl rfl rfl) rfl rfl) QAll.nil) ?_
      refine EAll.cons ?_ EAll.nil
      refine EOp.e rfl rfl rfl (EffX.storeSP (i := 0) (qv := [(_, [_, _, _, _, _, _, _, _]), (_, [_, _, _, _, _, _, _, _])]) hT rfl rfl rfl rfl rfl rfl rfl rfl rfl rfl) ?_
      rintro _ _ rfl
      apply Stg.next [] rfl rfl
      refine Stg.fin [] rfl rfl QAll.nil ?_
      replace H := H.self
      exact AtE.then_n ((HK1 _ b_37 _ H).pickP (ts := [4, 2]) (is := [0, 1]) rfl rfl (by decide) rfl)
     refine EAll.cons ?_ EAll.nil
     replace H := H.self
     replace H := H.2
     refine EOp.e rfl rfl rfl (EffX.mkS hT rfl rfl rfl rfl rfl rfl rfl rfl (by decide) H) ?_
     rintro _ _ ⟨v_108, h0u219, rfl, rfl, H⟩
     apply Stg.next [(17, _)] rfl rfl
     refine Stg.go [3] [4] rfl rfl (QAll.cons (QOp.p hT rfl rfl rfl rfl rfl) QAll.nil) ?_
     refine EAll.cons ?_ EAll.nil
     replace H := H.self
     refine EOp.e rfl rfl rfl (EffX.mkS hT rfl rfl rfl rfl rfl rfl rfl rfl (by decide) H) ?_
     rintro _ _ ⟨v_109, h0u221, rfl, rfl, H⟩
     apply Stg.next [(13, _), (18, _)] rfl rfl
     refine Stg.go [9] [11] rfl rfl (QAll.cons (QOp.q rfl rfl (Quiet1.build (cs := [_, _, _, _, _, _, _, _]) hT rfl rfl rfl rfl rfl rfl) rfl rfl) QAll.nil) ?_
     refine EAll.cons ?_ EAll.nil
     refine EOp.e rfl rfl rfl (EffX.storeSP (i := 0) (qv := [(_, [_, _, _, _, _, _, _, _]), (_, [_, _, _, _, _, _, _, _])]) hT rfl rfl rfl rfl rfl rfl rfl rfl rfl rfl) ?_
     rintro _ _ rfl
     apply Stg.next [] rfl rfl
     refine Stg.fin [] rfl rfl QAll.nil ?_
     replace H := H.self
     exact AtE.then_n ((HK1 _ b_37 _ H).pickP (ts := [4, 2]) (is := [0, 1]) rfl rfl (by decide) rfl)
    refine EAll.cons ?_ ?_
    ·
     replace H := H.self
     replace H := H.2.1
     refine EOp.e rfl rfl rfl (EffX.mkS hT rfl rfl rfl rfl rfl rfl rfl rfl (by decide) H) ?_
     rintro _ _ ⟨v_110, h0u223, rfl, rfl, H⟩
     apply Stg.next [(13, _)] rfl rfl
     refine Stg.go [0, 1, 7] [2, 8, 10] rfl rfl (QAll.cons (QOp.p hT rfl rfl rfl rfl rfl) (QAll.cons (QOp.p hT rfl rfl rfl rfl rfl) (QAll.cons (QOp.p hT rfl rfl rfl rfl rfl) QAll.nil))) ?_
     refine EAll.cons ?_ ?_
     ·
      replace H := H.self
      replace H := H.1
      refine EOp.e rfl rfl rfl (EffX.mkS hT rfl rfl rfl rfl rfl rfl rfl rfl (by decide) H) ?_
      rintro _ _ ⟨v_111, h0u225, rfl, rfl, H⟩
      apply Stg.next [(11, _)] rfl rfl
      refine Stg.go [7] [8, 10] rfl rfl (QAll.cons (QOp.p hT rfl rfl rfl rfl rfl) QAll.nil) ?_
      refine EAll.cons ?_ ?_
      ·
       replace H := H.self
       refine EOp.e rfl rfl rfl (EffX.mkS hT rfl rfl rfl rfl rfl rfl rfl rfl (by decide) H) ?_
       rintro _ _ ⟨v_112, h0u227, rfl, rfl, H⟩
       apply Stg.next [(17, _), (18, _)] rfl rfl
       refine Stg.go [9] [10] rfl rfl (QAll.cons (QOp.q rfl rfl (Quiet1.build (cs := [_, _, _, _, _, _, _, _]) hT rfl rfl rfl rfl rfl rfl) rfl rfl) QAll.nil) ?_
       refine EAll.cons ?_ EAll.nil
       refine EOp.e rfl rfl rfl (EffX.allocP (cs := [_, _, _, _, _, _, _, _]) hT rfl rfl H) ?_
       rintro _ _ ⟨b_38, _, rfl, rfl, he38, H⟩
       apply Stg.next [(4, _)] rfl rfl
       refine Stg.go [9] [11] rfl rfl (QAll.cons (QOp.q rfl rfl (Quiet1.build (cs := [_, _, _, _, _, _, _, _]) hT rfl rfl rfl rfl rfl rfl) rfl rfl) QAll.nil) ?_
       refine EAll.cons ?_ EAll.nil
       refine EOp.e rfl rfl rfl (EffX.storeSP (i := 0) (qv := [(_, [_, _, _, _, _, _, _, _]), (_, [_, _, _, _, _, _, _, _])]) hT rfl rfl rfl rfl rfl rfl rfl rfl rfl rfl) ?_
       rintro _ _ rfl
       apply Stg.next [] rfl rfl
       refine Stg.fin [] rfl rfl QAll.nil ?_
       replace H := H.self
       exact AtE.then_n ((HK1 _ b_38 _ H).pickP (ts := [4, 2]) (is := [0, 1]) rfl rfl (by decide) rfl)
      refine EAll.cons ?_ EAll.nil
      refine EOp.e rfl rfl rfl (EffX.allocP (cs := [_, _, _, _, _, _, _, _]) hT rfl rfl H) ?_
      rintro _ _ ⟨b_39, _, rfl, rfl, he39, H⟩
      apply Stg.next [(4, _)] rfl rfl
      refine Stg.go [7] [8] rfl rfl (QAll.cons (QOp.p hT rfl rfl rfl rfl rfl) QAll.nil) ?_
      refine EAll.cons ?_ EAll.nil
      replace H := H.self
      refine EOp.e rfl rfl rfl (EffX.mkS hT rfl rfl rfl rfl rfl rfl rfl rfl (by decide) H) ?_
      rintro _ _ ⟨v_113, h0u229, rfl, rfl, H⟩
      apply Stg.next [(17, _), (18, _)] rfl rfl
      refine Stg.go [9] [11] rfl rfl (QAll.cons (QOp.q rfl rfl (Quiet1.build (cs := [_, _, _, _, _, _, _, _]) hT rfl rfl rfl rfl rfl rfl) rfl rfl) QAll.nil) ?_
      refine EAll.cons ?_ EAll.nil
      refine EOp.e rfl rfl rfl (EffX.storeSP (i := 0) (qv := [(_, [_, _, _, _, _, _, _, _]), (_, [_, _, _, _, _, _, _, _])]) hT rfl rfl rfl rfl rfl rfl rfl rfl rfl rfl) ?_
      rintro _ _ rfl
      apply Stg.next [] rfl rfl
      refine Stg.fin [] rfl rfl QAll.nil ?_
      replace H := H.self
      exact AtE.then_n ((HK1 _ b_39 _ H).pickP (ts := [4, 2]) (is := [0, 1]) rfl rfl (by decide) rfl)
     refine EAll.cons ?_ ?_
     ·
      replace H := H.self
      replace H := H.2
      refine EOp.e rfl rfl rfl (EffX.mkS hT rfl rfl rfl rfl rfl rfl rfl rfl (by decide) H) ?_
      rintro _ _ ⟨v_114, h0u231, rfl, rfl, H⟩
      apply Stg.next [(17, _)] rfl rfl
      refine Stg.go [0, 1] [2, 10] rfl rfl (QAll.cons (QOp.p hT rfl rfl rfl rfl rfl) (QAll.cons (QOp.p hT rfl rfl rfl rfl rfl) QAll.nil)) ?_
      refine EAll.cons ?_ ?_
      ·
       replace H := H.self
       refine EOp.e rfl rfl rfl (EffX.mkS hT rfl rfl rfl rfl rfl rfl rfl rfl (by decide) H) ?_
       rintro _ _ ⟨v_115, h0u233, rfl, rfl, H⟩
       apply Stg.next [(11, _), (18, _)] rfl rfl
       refine Stg.go [9] [10] rfl rfl (QAll.cons (QOp.q rfl rfl (Quiet1.build (cs := [_, _, _, _, _, _, _, _]) hT rfl rfl rfl rfl rfl rfl) rfl rfl) QAll.nil) ?_
       refine EAll.cons ?_ EAll.nil
       refine EOp.e rfl rfl rfl (EffX.allocP (cs := [_, _, _, _, _, _, _, _]) hT rfl rfl H) ?_
       rintro _ _ ⟨b_40, _, rfl, rfl, he40, H⟩
       apply Stg.next [(4, _)] rfl rfl
       refine Stg.go [9] [11] rfl rfl (QAll.cons (QOp.q rfl rfl (Quiet1.build (cs := [_, _, _, _, _, _, _, _]) hT rfl rfl rfl rfl rfl rfl) rfl rfl) QAll.nil) ?_
       refine EAll.cons ?_ EAll.nil
       refine EOp.e rfl rfl rfl (EffX.storeSP (i := 0) (qv := [(_, [_, _, _, _, _, _, _, _]), (_, [_, _, _, _, _, _, _, _])]) hT rfl rfl rfl rfl rfl rfl rfl rfl rfl rfl) ?_
       rintro _ _ rfl
       apply Stg.next [] rfl rfl
       refine Stg.fin [] rfl rfl QAll.nil ?_
       replace H := H.self
       exact AtE.then_n ((HK1 _ b_40 _ H).pickP (ts := [4, 2]) (is := [0, 1]) rfl rfl (by decide) rfl)
      refine EAll.cons ?_ EAll.nil
      refine EOp.e rfl rfl rfl (EffX.allocP (cs := [_, _, _, _, _, _, _, _]) hT rfl rfl H) ?_
      rintro _ _ ⟨b_41, _, rfl, rfl, he41, H⟩
      apply Stg.next [(4, _)] rfl rfl
      refine Stg.go [0, 1] [2] rfl rfl (QAll.cons (QOp.p hT rfl rfl rfl rfl rfl) (QAll.cons (QOp.p hT rfl rfl rfl rfl rfl) QAll.nil)) ?_
      refine EAll.cons ?_ EAll.nil
      replace H := H.self
      refine EOp.e rfl rfl rfl (EffX.mkS hT rfl rfl rfl rfl rfl rfl rfl rfl (by decide) H) ?_
      rintro _ _ ⟨v_116, h0u235, rfl, rfl, H⟩
      apply Stg.next [(11, _), (18, _)] rfl rfl
      refine Stg.go [9] [11] rfl rfl (QAll.cons (QOp.q rfl rfl (Quiet1.build (cs := [_, _, _, _, _, _, _, _]) hT rfl rfl rfl rfl rfl rfl) rfl rfl) QAll.nil) ?_
      refine EAll.cons ?_ EAll.nil
      refine EOp.e rfl rfl rfl (EffX.storeSP (i := 0) (qv := [(_, [_, _, _, _, _, _, _, _]), (_, [_, _, _, _, _, _, _, _])]) hT rfl rfl rfl rfl rfl rfl rfl rfl rfl rfl) ?_
      rintro _ _ rfl
      apply Stg.next [] rfl rfl
      refine Stg.fin [] rfl rfl QAll.nil ?_
      replace H := H.self
      exact AtE.then_n ((HK1 _ b_41 _ H).pickP (ts := [4, 2]) (is := [0, 1]) rfl rfl (by decide) rfl)
     refine EAll.cons ?_ EAll.nil
     refine EOp.e rfl rfl rfl (EffX.allocP (cs := [_, _, _, _, _, _, _, _]) hT rfl rfl H) ?_
     rintro _ _ ⟨b_42, _, rfl, rfl, he42, H⟩
     apply Stg.next [(4, _)] rfl rfl
     refine Stg.go [0, 1, 7] [2, 8] rfl rfl (QAll.cons (QOp.p hT rfl rfl rfl rfl rfl) (QAll.cons (QOp.p hT rfl rfl rfl rfl rfl) (QAll.cons (QOp.p hT rfl rfl rfl rfl rfl) QAll.nil))) ?_
     refine EAll.cons ?_ ?_
     ·
      replace H := H.self
      replace H := H.1
      refine EOp.e rfl rfl rfl (EffX.mkS hT rfl rfl rfl rfl rfl rfl rfl rfl (by decide) H) ?_
      rintro _ _ ⟨v_117, h0u237, rfl, rfl, H⟩
      apply Stg.next [(11, _)] rfl rfl
      refine Stg.go [7] [8] rfl rfl (QAll.cons (QOp.p hT rfl rfl rfl rfl rfl) QAll.nil) ?_
      refine EAll.cons ?_ EAll.nil
      replace H := H.self
      refine EOp.e rfl rfl rfl (EffX.mkS hT rfl rfl rfl rfl rfl rfl rfl rfl (by decide) H) ?_
      rintro _ _ ⟨v_118, h0u239, rfl, rfl, H⟩
      apply Stg.next [(17, _), (18, _)] rfl rfl
      refine Stg.go [9] [11] rfl rfl (QAll.cons (QOp.q rfl rfl (Quiet1.build (cs := [_, _, _, _, _, _, _, _]) hT rfl rfl rfl rfl rfl rfl) rfl rfl) QAll.nil) ?_
      refine EAll.cons ?_ EAll.nil
      refine EOp.e rfl rfl rfl (EffX.storeSP (i := 0) (qv := [(_, [_, _, _, _, _, _, _, _]), (_, [_, _, _, _, _, _, _, _])]) hT rfl rfl rfl rfl rfl rfl rfl rfl rfl rfl) ?_
      rintro _ _ rfl
      apply Stg.next [] rfl rfl
      refine Stg.fin [] rfl rfl QAll.nil ?_
      replace H := H.self
      exact AtE.then_n ((HK1 _ b_42 _ H).pickP (ts := [4, 2]) (is := [0, 1]) rfl rfl (by decide) rfl)
     refine EAll.cons ?_ EAll.nil
     replace H := H.self
     replace H := H.2
     refine EOp.e rfl rfl rfl (EffX.mkS hT rfl rfl rfl rfl rfl rfl rfl rfl (by decide) H) ?_
     rintro _ _ ⟨v_119, h0u241, rfl, rfl, H⟩
     apply Stg.next [(17, _)] rfl rfl
     refine Stg.go [0, 1] [2] rfl rfl (QAll.cons (QOp.p hT rfl rfl rfl rfl rfl) (QAll.cons (QOp.p hT rfl rfl rfl rfl rfl) QAll.nil)) ?_
     refine EAll.cons ?_ EAll.nil
     replace H := H.self
     refine EOp.e rfl rfl rfl (EffX.mkS hT rfl rfl rfl rfl rfl rfl rfl rfl (by decide) H) ?_
     rintro _ _ ⟨v_120, h0u243, rfl, rfl, H⟩
     apply Stg.next [(11, _), (18, _)] rfl rfl
     refine Stg.go [9] [11] rfl rfl (QAll.cons (QOp.q rfl rfl (Quiet1.build (cs := [_, _, _, _, _, _, _, _]) hT rfl rfl rfl rfl rfl rfl) rfl rfl) QAll.nil) ?_
     refine EAll.cons ?_ EAll.nil
     refine EOp.e rfl rfl rfl (EffX.storeSP (i := 0) (qv := [(_, [_, _, _, _, _, _, _, _]), (_, [_, _, _, _, _, _, _, _])]) hT rfl rfl rfl rfl rfl rfl rfl rfl rfl rfl) ?_
     rintro _ _ rfl
     apply Stg.next [] rfl rfl
     refine Stg.fin [] rfl rfl QAll.nil ?_
     replace H := H.self
     exact AtE.then_n ((HK1 _ b_42 _ H).pickP (ts := [4, 2]) (is := [0, 1]) rfl rfl (by decide) rfl)
    refine EAll.cons ?_ ?_
    ·
     replace H := H.self
     replace H := H.2.2
     refine EOp.e rfl rfl rfl (EffX.mkS hT rfl rfl rfl rfl rfl rfl rfl rfl (by decide) H) ?_
     rintro _ _ ⟨v_121, h0u245, rfl, rfl, H⟩
     apply Stg.next [(17, _)] rfl rfl
     refine Stg.go [0, 1, 3] [2, 4, 10] rfl rfl (QAll.cons (QOp.p hT rfl rfl rfl rfl rfl) (QAll.cons (QOp.p hT rfl rfl rfl rfl rfl) (QAll.cons (QOp.p hT rfl rfl rfl rfl rfl) QAll.nil))) ?_
     refine EAll.cons ?_ ?_
     ·
      replace H := H.self
      replace H := H.1
      refine EOp.e rfl rfl rfl (EffX.mkS hT rfl rfl rfl rfl rfl rfl rfl rfl (by decide) H) ?_
      rintro _ _ ⟨v_122, h0u247, rfl, rfl, H⟩
      apply Stg.next [(11, _)] rfl rfl
      refine Stg.go [3] [4, 10] rfl rfl (QAll.cons (QOp.p hT rfl rfl rfl rfl rfl) QAll.nil) ?_
      refine EAll.cons ?_ ?_
      ·
       replace H := H.self
       refine EOp.e rfl rfl rfl (EffX.mkS hT rfl rfl rfl rfl rfl rfl rfl rfl (by decide) H) ?_
       rintro _ _ ⟨v_123, h0u249, rfl, rfl, H⟩
       apply Stg.next [(13, _), (18, _)] rfl rfl
       refine Stg.go [9] [10] rfl rfl (QAll.cons (QOp.q rfl rfl (Quiet1.build (cs := [_, _, _, _, _, _, _, _]) hT rfl rfl rfl rfl rfl rfl) rfl rfl) QAll.nil) ?_
       refine EAll.cons ?_ EAll.nil
       refine EOp.e rfl rfl rfl (EffX.allocP (cs := [_, _, _, _, _, _, _, _]) hT rfl rfl H) ?_
       rintro _ _ ⟨b_43, _, rfl, rfl, he43, H⟩
       apply Stg.next [(4, _)] rfl rfl
       refine Stg.go [9] [11] rfl rfl (QAll.cons (QOp.q rfl rfl (Quiet1.build (cs := [_, _, _, _, _, _, _, _]) hT rfl rfl rfl rfl rfl rfl) rfl rfl) QAll.nil) ?_
       refine EAll.cons ?_ EAll.nil
       refine EOp.e rfl rfl rfl (EffX.storeSP (i := 0) (qv := [(_, [_, _, _, _, _, _, _, _]), (_, [_, _, _, _, _, _, _, _])]) hT rfl rfl rfl rfl rfl rfl rfl rfl rfl rfl) ?_
       rintro _ _ rfl
       apply Stg.next [] rfl rfl
       refine Stg.fin [] rfl rfl QAll.nil ?_
       replace H := H.self
       exact AtE.then_n ((HK1 _ b_43 _ H).pickP (ts := [4, 2]) (is := [0, 1]) rfl rfl (by decide) rfl)
      refine EAll.cons ?_ EAll.nil
      refine EOp.e rfl rfl rfl (EffX.allocP (cs := [_, _, _, _, _, _, _, _]) hT rfl rfl H) ?_
      rintro _ _ ⟨b_44, _, rfl, rfl, he44, H⟩
      apply Stg.next [(4, _)] rfl rfl
      refine Stg.go [3] [4] rfl rfl (QAll.cons (QOp.p hT rfl rfl rfl rfl rfl) QAll.nil) ?_
      refine EAll.cons ?_ EAll.nil
      replace H := H.self
      refine EOp.e rfl rfl rfl (EffX.mkS hT rfl rfl rfl rfl rfl rfl rfl rfl (by decide) H) ?_
      rintro _ _ ⟨v_124, h0u251, rfl, rfl, H⟩
      apply Stg.next [(13, _), (18, _)] rfl rfl
      refine Stg.go [9] [11] rfl rfl (QAll.cons (QOp.q rfl rfl (Quiet1.build (cs := [_, _, _, _, _, _, _, _]) hT rfl rfl rfl rfl rfl rfl) rfl rfl) QAll.nil) ?_
      refine EAll.cons ?_ EAll.nil
      refine EOp.e rfl rfl rfl (EffX.storeSP (i := 0) (qv := [(_, [_, _, _, _, _, _, _, _]), (_, [_, _, _, _, _, _, _, _])]) hT rfl rfl rfl rfl rfl rfl rfl rfl rfl rfl) ?_
      rintro _ _ rfl
      apply Stg.next [] rfl rfl
      refine Stg.fin [] rfl rfl QAll.nil ?_
      replace H := H.self
      exact AtE.then_n ((HK1 _ b_44 _ H).pickP (ts := [4, 2]) (is := [0, 1]) rfl rfl (by decide) rfl)
     refine EAll.cons ?_ ?_
     ·
      replace H := H.self
      replace H := H.2
      refine EOp.e rfl rfl rfl (EffX.mkS hT rfl rfl rfl rfl rfl rfl rfl rfl (by decide) H) ?_
      rintro _ _ ⟨v_125, h0u253, rfl, rfl, H⟩
      apply Stg.next [(13, _)] rfl rfl
      refine Stg.go [0, 1] [2, 10] rfl rfl (QAll.cons (QOp.p hT rfl rfl rfl rfl rfl) (QAll.cons (QOp.p hT rfl rfl rfl rfl rfl) QAll.nil)) ?_
      refine EAll.cons ?_ ?_
      ·
       replace H := H.self
       refine EOp.e rfl rfl rfl (EffX.mkS hT rfl rfl rfl rfl rfl rfl rfl rfl (by decide) H) ?_
       rintro _ _ ⟨v_126, h0u255, rfl, rfl, H⟩
       apply Stg.next [(11, _), (18, _)] rfl rfl
       refine Stg.go [9] [10] rfl rfl (QAll.cons (QOp.q rfl rfl (Quiet1.build (cs := [_, _, _, _, _, _, _, _]) hT rfl rfl rfl rfl rfl rfl) rfl rfl) QAll.nil) ?_
       refine EAll.cons ?_ EAll.nil
       refine EOp.e rfl rfl rfl (EffX.allocP (cs := [_, _, _, _, _, _, _, _]) hT rfl rfl H) ?_
       rintro _ _ ⟨b_45, _, rfl, rfl, he45, H⟩
       apply Stg.next [(4, _)] rfl rfl
       refine Stg.go [9] [11] rfl rfl (QAll.cons (QOp.q rfl rfl (Quiet1.build (cs := [_, _, _, _, _, _, _, _]) hT rfl rfl rfl rfl rfl rfl) rfl rfl) QAll.nil) ?_
       refine EAll.cons ?_ EAll.nil
       refine EOp.e rfl rfl rfl (EffX.storeSP (i := 0) (qv := [(_, [_, _, _, _, _, _, _, _]), (_, [_, _, _, _, _, _, _, _])]) hT rfl rfl rfl rfl rfl rfl rfl rfl rfl rfl) ?_
       rintro _ _ rfl
       apply Stg.next [] rfl rfl
       refine Stg.fin [] rfl rfl QAll.nil ?_
       replace H := H.self
       exact AtE.then_n ((HK1 _ b_45 _ H).pickP (ts := [4, 2]) (is := [0, 1]) rfl rfl (by decide) rfl)
      refine EAll.cons ?_ EAll.nil
      refine EOp.e rfl rfl rfl (EffX.allocP (cs := [_, _, _, _, _, _, _, _]) hT rfl rfl H) ?_
      rintro _ _ ⟨b_46, _, rfl, rfl, he46, H⟩
      apply Stg.next [(4, _)] rfl rfl
      refine Stg.go [0, 1] [2] rfl rfl (QAll.cons (QOp.p hT rfl rfl rfl rfl rfl) (QAll.cons (QOp.p hT rfl rfl rfl rfl rfl) QAll.nil)) ?_
      refine EAll.cons ?_ EAll.nil
      replace H := H.self
      refine EOp.e rfl rfl rfl (EffX.mkS hT rfl rfl rfl rfl rfl rfl rfl rfl (by decide) H) ?_
      rintro _ _ ⟨v_127, h0u257, rfl, rfl, H⟩
      apply Stg.next [(11, _), (18, _)] rfl rfl
      refine Stg.go [9] [11] rfl rfl (QAll.cons (QOp.q rfl rfl (Quiet1.build (cs := [_, _, _, _, _, _, _, _]) hT rfl rfl rfl rfl rfl rfl) rfl rfl) QAll.nil) ?_
      refine EAll.cons ?_ EAll.nil
      refine EOp.e rfl rfl rfl (EffX.storeSP (i := 0) (qv := [(_, [_, _, _, _, _, _, _, _]), (_, [_, _, _, _, _, _, _, _])]) hT rfl rfl rfl rfl rfl rfl rfl rfl rfl rfl) ?_
      rintro _ _ rfl
      apply Stg.next [] rfl rfl
      refine Stg.fin [] rfl rfl QAll.nil ?_
      replace H := H.self
      exact AtE.then_n ((HK1 _ b_46 _ H).pickP (ts := [4, 2]) (is := [0, 1]) rfl rfl (by decide) rfl)
     refine EAll.cons ?_ EAll.nil
     refine EOp.e rfl rfl rfl (EffX.allocP (cs := [_, _, _, _, _, _, _, _]) hT rfl rfl H) ?_
     rintro _ _ ⟨b_47, _, rfl, rfl, he47, H⟩
     apply Stg.next [(4, _)] rfl rfl
     refine Stg.go [0, 1, 3] [2, 4] rfl rfl (QAll.cons (QOp.p hT rfl rfl rfl rfl rfl) (QAll.cons (QOp.p hT rfl rfl rfl rfl rfl) (QAll.cons (QOp.p hT rfl rfl rfl rfl rfl) QAll.nil))) ?_
     refine EAll.cons ?_ ?_
     ·
      replace H := H.self
      replace H := H.1
      refine EOp.e rfl rfl rfl (EffX.mkS hT rfl rfl rfl rfl rfl rfl rfl rfl (by decide) H) ?_
      rintro _ _ ⟨v_128, h0u259, rfl, rfl, H⟩
      apply Stg.next [(11, _)] rfl rfl
      refine Stg.go [3] [4] rfl rfl (QAll.cons (QOp.p hT rfl rfl rfl rfl rfl) QAll.nil) ?_
      refine EAll.cons ?_ EAll.nil
      replace H := H.self
      refine EOp.e rfl rfl rfl (EffX.mkS hT rfl rfl rfl rfl rfl rfl rfl rfl (by decide) H) ?_
      rintro _ _ ⟨v_129, h0u261, rfl, rfl, H⟩
      apply Stg.next [(13, _), (18, _)] rfl rfl
      refine Stg.go [9] [11] rfl rfl (QAll.cons (QOp.q rfl rfl (Quiet1.build (cs := [_, _, _, _, _, _, _, _]) hT rfl rfl rfl rfl rfl rfl) rfl rfl) QAll.nil) ?_
      refine EAll.cons ?_ EAll.nil
      refine EOp.e rfl rfl rfl (EffX.storeSP (i := 0) (qv := [(_, [_, _, _, _, _, _, _, _]), (_, [_, _, _, _, _, _, _, _])]) hT rfl rfl rfl rfl rfl rfl rfl rfl rfl rfl) ?_
      rintro _ _ rfl
      apply Stg.next [] rfl rfl
      refine Stg.fin [] rfl rfl QAll.nil ?_
      replace H := H.self
      exact AtE.then_n ((HK1 _ b_47 _ H).pickP (ts := [4, 2]) (is := [0, 1]) rfl rfl (by decide) rfl)
     refine EAll.cons ?_ EAll.nil
     replace H := H.self
     replace H := H.2
     refine EOp.e rfl rfl rfl (EffX.mkS hT rfl rfl rfl rfl rfl rfl rfl rfl (by decide) H) ?_
     rintro _ _ ⟨v_130, h0u263, rfl, rfl, H⟩
     apply Stg.next [(13, _)] rfl rfl
     refine Stg.go [0, 1] [2] rfl rfl (QAll.cons (QOp.p hT rfl rfl rfl rfl rfl) (QAll.cons (QOp.p hT rfl rfl rfl rfl rfl) QAll.nil)) ?_
     refine EAll.cons ?_ EAll.nil
     replace H := H.self
     refine EOp.e rfl rfl rfl (EffX.mkS hT rfl rfl rfl rfl rfl rfl rfl rfl (by decide) H) ?_
     rintro _ _ ⟨v_131, h0u265, rfl, rfl, H⟩
     apply Stg.next [(11, _), (18, _)] rfl rfl
     refine Stg.go [9] [11] rfl rfl (QAll.cons (QOp.q rfl rfl (Quiet1.build (cs := [_, _, _, _, _, _, _, _]) hT rfl rfl rfl rfl rfl rfl) rfl rfl) QAll.nil) ?_
     refine EAll.cons ?_ EAll.nil
     refine EOp.e rfl rfl rfl (EffX.storeSP (i := 0) (qv := [(_, [_, _, _, _, _, _, _, _]), (_, [_, _, _, _, _, _, _, _])]) hT rfl rfl rfl rfl rfl rfl rfl rfl rfl rfl) ?_
     rintro _ _ rfl
     apply Stg.next [] rfl rfl
     refine Stg.fin [] rfl rfl QAll.nil ?_
     replace H := H.self
     exact AtE.then_n ((HK1 _ b_47 _ H).pickP (ts := [4, 2]) (is := [0, 1]) rfl rfl (by decide) rfl)
    refine EAll.cons ?_ EAll.nil
    refine EOp.e rfl rfl rfl (EffX.allocP (cs := [_, _, _, _, _, _, _, _]) hT rfl rfl H) ?_
    rintro _ _ ⟨b_48, _, rfl, rfl, he48, H⟩
    apply Stg.next [(4, _)] rfl rfl
    refine Stg.go [0, 1, 3, 7] [2, 4, 8] rfl rfl (QAll.cons (QOp.p hT rfl rfl rfl rfl rfl) (QAll.cons (QOp.p hT rfl rfl rfl rfl rfl) (QAll.cons (QOp.p hT rfl rfl rfl rfl rfl) (QAll.cons (QOp.p hT rfl rfl rfl rfl rfl) QAll.nil)))) ?_
    refine EAll.cons ?_ ?_
    ·
     replace H := H.self
     replace H := H.1
     refine EOp.e rfl rfl rfl (EffX.mkS hT rfl rfl rfl rfl rfl rfl rfl rfl (by decide) H) ?_
     rintro _ _ ⟨v_132, h0u267, rfl, rfl, H⟩
     apply Stg.next [(11, _)] rfl rfl
     refine Stg.go [3, 7] [4, 8] rfl rfl (QAll.cons (QOp.p hT rfl rfl rfl rfl rfl) (QAll.cons (QOp.p hT rfl rfl rfl rfl rfl) QAll.nil)) ?_
     refine EAll.cons ?_ ?_
     ·
      replace H := H.self
      replace H := H.1
      refine EOp.e rfl rfl rfl (EffX.mkS hT rfl rfl rfl rfl rfl rfl rfl rfl (by decide) H) ?_
      rintro _ _ ⟨v_133, h0u269, rfl, rfl, H⟩
      apply Stg.next [(13, _)] rfl rfl
      refine Stg.go [7] [8] rfl rfl (QAll.cons (QOp.p hT rfl rfl rfl rfl rfl) QAll.nil) ?_
      refine EAll.cons ?_ EAll.nil
      replace H := H.self
      refine EOp.e rfl rfl rfl (EffX.mkS hT rfl rfl rfl rfl rfl rfl rfl rfl (by decide) H) ?_
      rintro _ _ ⟨v_134, h0u271, rfl, rfl, H⟩
      apply Stg.next [(17, _), (18, _)] rfl rfl
      refine Stg.go [9] [11] rfl rfl (QAll.cons (QOp.q rfl rfl (Quiet1.build (cs := [_, _, _, _, _, _, _, _]) hT rfl rfl rfl rfl rfl rfl) rfl rfl) QAll.nil) ?_
      refine EAll.cons ?_ EAll.nil
      refine EOp.e rfl rfl rfl (EffX.storeSP (i := 0) (qv := [(_, [_, _, _, _, _, _, _, _]), (_, [_, _, _, _, _, _, _, _])]) hT rfl rfl rfl rfl rfl rfl rfl rfl rfl rfl) ?_
      rintro _ _ rfl
      apply Stg.next [] rfl rfl
      refine Stg.fin [] rfl rfl QAll.nil ?_
      replace H := H.self
      exact AtE.then_n ((HK1 _ b_48 _ H).pickP (ts := [4, 2]) (is := [0, 1]) rfl rfl (by decide) rfl)
     refine EAll.cons ?_ EAll.nil
     replace H := H.self
     replace H := H.2
     refine EOp.e rfl rfl rfl (EffX.mkS hT rfl rfl rfl rfl rfl rfl rfl rfl (by decide) H) ?_
     rintro _ _ ⟨v_135, h0u273, rfl, rfl, H⟩
     apply Stg.next [(17, _)] rfl rfl
     refine Stg.go [3] [4] rfl rfl (QAll.cons (QOp.p hT rfl rfl rfl rfl rfl) QAll.nil) ?_
     refine EAll.cons ?_ EAll.nil
     replace H := H.self
     refine EOp.e rfl rfl rfl (EffX.mkS hT rfl rfl rfl rfl rfl rfl rfl rfl (by decide) H) ?_
     rintro _ _ ⟨v_136, h0u275, rfl, rfl, H⟩
     apply Stg.next [(13, _), (18, _)] rfl rfl
     refine Stg.go [9] [11] rfl rfl (QAll.cons (QOp.q rfl rfl (Quiet1.build (cs := [_, _, _, _, _, _, _, _]) hT rfl rfl rfl rfl rfl rfl) rfl rfl) QAll.nil) ?_
     refine EAll.cons ?_ EAll.nil
     refine EOp.e rfl rfl rfl (EffX.storeSP (i := 0) (qv := [(_, [_, _, _, _, _, _, _, _]), (_, [_, _, _, _, _, _, _, _])]) hT rfl rfl rfl rfl rfl rfl rfl rfl rfl rfl) ?_
     rintro _ _ rfl
     apply Stg.next [] rfl rfl
     refine Stg.fin [] rfl rfl QAll.nil ?_
     replace H := H.self
     exact AtE.then_n ((HK1 _ b_48 _ H).pickP (ts := [4, 2]) (is := [0, 1]) rfl rfl (by decide) rfl)
    refine EAll.cons ?_ ?_
    ·
     replace H := H.self
     replace H := H.2.1
     refine EOp.e rfl rfl rfl (EffX.mkS hT rfl rfl rfl rfl rfl rfl rfl rfl (by decide) H) ?_
     rintro _ _ ⟨v_137, h0u277, rfl, rfl, H⟩
     apply Stg.next [(13, _)] rfl rfl
     refine Stg.go [0, 1, 7] [2, 8] rfl rfl (QAll.cons (QOp.p hT rfl rfl rfl rfl rfl) (QAll.cons (QOp.p hT rfl rfl rfl rfl rfl) (QAll.cons (QOp.p hT rfl rfl rfl rfl rfl) QAll.nil))) ?_
     refine EAll.cons ?_ ?_
     ·
      replace H := H.self
      replace H := H.1
      refine EOp.e rfl rfl rfl (EffX.mkS hT rfl rfl rfl rfl rfl rfl rfl rfl (by decide) H) ?_
      rintro _ _ ⟨v_138, h0u279, rfl, rfl, H⟩
      apply Stg.next [(11, _)] rfl rfl
      refine Stg.go [7] [8] rfl rfl (QAll.cons (QOp.p hT rfl rfl rfl rfl rfl) QAll.nil) ?_
      refine EAll.cons ?_ EAll.nil
      replace H := H.self
      refine EOp.e rfl rfl rfl (EffX.mkS hT rfl rfl rfl rfl rfl rfl rfl rfl (by decide) H) ?_
      rintro _ _ ⟨v_139, h0u281, rfl, rfl, H⟩
      apply Stg.next [(17, _), (18, _)] rfl rfl
      refine Stg.go [9] [11] rfl rfl (QAll.cons (QOp.q rfl rfl (Quiet1.build (cs := [_, _, _, _, _, _, _, _]) hT rfl rfl rfl rfl rfl rfl) rfl rfl) QAll.nil) ?_
      refine EAll.cons ?_ EAll.nil
      refine EOp.e rfl rfl rfl (EffX.storeSP (i := 0) (qv := [(_, [_, _, _, _, _, _, _, _]), (_, [_, _, _, _, _, _, _, _])]) hT rfl rfl rfl rfl rfl rfl rfl rfl rfl rfl) ?_
      rintro _ _ rfl
      apply Stg.next [] rfl rfl
      refine Stg.fin [] rfl rfl QAll.nil ?_
      replace H := H.self
      exact AtE.then_n ((HK1 _ b_48 _ H).pickP (ts := [4, 2]) (is := [0, 1]) rfl rfl (by decide) rfl)
     refine EAll.cons ?_ EAll.nil
     replace H := H.self
     replace H := H.2
     refine EOp.e rfl rfl rfl (EffX.mkS hT rfl rfl rfl rfl rfl rfl rfl rfl (by decide) H) ?_
     rintro _ _ ⟨v_140, h0u283, rfl, rfl, H⟩
     apply Stg.next [(17, _)] rfl rfl
     refine Stg.go [0, 1] [2] rfl rfl (QAll.cons (QOp.p hT rfl rfl rfl rfl rfl) (QAll.cons (QOp.p hT rfl rfl rfl rfl rfl) QAll.nil)) ?_
     refine EAll.cons ?_ EAll.nil
     replace H := H.self
     refine EOp.e rfl rfl rfl (EffX.mkS hT rfl rfl rfl rfl rfl rfl rfl rfl (by decide) H) ?_
     rintro _ _ ⟨v_141, h0u285, rfl, rfl, H⟩
     apply Stg.next [(11, _), (18, _)] rfl rfl
     refine Stg.go [9] [11] rfl rfl (QAll.cons (QOp.q rfl rfl (Quiet1.build (cs := [_, _, _, _, _, _, _, _]) hT rfl rfl rfl rfl rfl rfl) rfl rfl) QAll.nil) ?_
     refine EAll.cons ?_ EAll.nil
     refine EOp.e rfl rfl rfl (EffX.storeSP (i := 0) (qv := [(_, [_, _, _, _, _, _, _, _]), (_, [_, _, _, _, _, _, _, _])]) hT rfl rfl rfl rfl rfl rfl rfl rfl rfl rfl) ?_
     rintro _ _ rfl
     apply Stg.next [] rfl rfl
     refine Stg.fin [] rfl rfl QAll.nil ?_
     replace H := H.self
     exact AtE.then_n ((HK1 _ b_48 _ H).pickP (ts := [4, 2]) (is := [0, 1]) rfl rfl (by decide) rfl)
    refine EAll.cons ?_ EAll.nil
    replace H := H.self
    replace H := H.2.2
    refine EOp.e rfl rfl rfl (EffX.mkS hT rfl rfl rfl rfl rfl rfl rfl rfl (by decide) H) ?_
    rintro _ _ ⟨v_142, h0u287, rfl, rfl, H⟩
    apply Stg.next [(17, _)] rfl rfl
    refine Stg.go [0, 1, 3] [2, 4] rfl rfl (QAll.cons (QOp.p hT rfl rfl rfl rfl rfl) (QAll.cons (QOp.p hT rfl rfl rfl rfl rfl) (QAll.cons (QOp.p hT rfl rfl rfl rfl rfl) QAll.nil))) ?_
    refine EAll.cons ?_ ?_
    ·
     replace H := H.self
     replace H := H.1
     refine EOp.e rfl rfl rfl (EffX.mkS hT rfl rfl rfl rfl rfl rfl rfl rfl (by decide) H) ?_
     rintro _ _ ⟨v_143, h0u289, rfl, rfl, H⟩
     apply Stg.next [(11, _)] rfl rfl
     refine Stg.go [3] [4] rfl rfl (QAll.cons (QOp.p hT rfl rfl rfl rfl rfl) QAll.nil) ?_
     refine EAll.cons ?_ EAll.nil
     replace H := H.self
     refine EOp.e rfl rfl rfl (EffX.mkS hT rfl rfl rfl rfl rfl rfl rfl rfl (by decide) H) ?_
     rintro _ _ ⟨v_144, h0u291, rfl, rfl, H⟩
     apply Stg.next [(13, _), (18, _)] rfl rfl
     refine Stg.go [9] [11] rfl rfl (QAll.cons (QOp.q rfl rfl (Quiet1.build (cs := [_, _, _, _, _, _, _, _]) hT rfl rfl rfl rfl rfl rfl) rfl rfl) QAll.nil) ?_
     refine EAll.cons ?_ EAll.nil
     refine EOp.e rfl rfl rfl (EffX.storeSP (i := 0) (qv := [(_, [_, _, _, _, _, _, _, _]), (_, [_, _, _, _, _, _, _, _])]) hT rfl rfl rfl rfl rfl rfl rfl rfl rfl rfl) ?_
     rintro _ _ rfl
     apply Stg.next [] rfl rfl
     refine Stg.fin [] rfl rfl QAll.nil ?_
     replace H := H.self
     exact AtE.then_n ((HK1 _ b_48 _ H).pickP (ts := [4, 2]) (is := [0, 1]) rfl rfl (by decide) rfl)
    refine EAll.cons ?_ EAll.nil
    replace H := H.self
    replace H := H.2
    refine EOp.e rfl rfl rfl (EffX.mkS hT rfl rfl rfl rfl rfl rfl rfl rfl (by decide) H) ?_
    rintro _ _ ⟨v_145, h0u293, rfl, rfl, H⟩
    apply Stg.next [(13, _)] rfl rfl
    refine Stg.go [0, 1] [2] rfl rfl (QAll.cons (QOp.p hT rfl rfl rfl rfl rfl) (QAll.cons (QOp.p hT rfl rfl rfl rfl rfl) QAll.nil)) ?_
    refine EAll.cons ?_ EAll.nil
    replace H := H.self
    refine EOp.e rfl rfl rfl (EffX.mkS hT rfl rfl rfl rfl rfl rfl rfl rfl (by decide) H) ?_
    rintro _ _ ⟨v_146, h0u295, rfl, rfl, H⟩
    apply Stg.next [(11, _), (18, _)] rfl rfl
    refine Stg.go [9] [11] rfl rfl (QAll.cons (QOp.q rfl rfl (Quiet1.build (cs := [_, _, _, _, _, _, _, _]) hT rfl rfl rfl rfl rfl rfl) rfl rfl) QAll.nil) ?_
    refine EAll.cons ?_ EAll.nil
    refine EOp.e rfl rfl rfl (EffX.storeSP (i := 0) (qv := [(_, [_, _, _, _, _, _, _, _]), (_, [_, _, _, _, _, _, _, _])]) hT rfl rfl rfl rfl rfl rfl rfl rfl rfl rfl) ?_
    rintro _ _ rfl
    apply Stg.next [] rfl rfl
    refine Stg.fin [] rfl rfl QAll.nil ?_
    replace H := H.self
    exact AtE.then_n ((HK1 _ b_48 _ H).pickP (ts := [4, 2]) (is := [0, 1]) rfl rfl (by decide) rfl)
   refine EAll.cons ?_ ?_
   ·
    replace H := H.self
    replace H := H.2.2.2
    refine EOp.e rfl rfl rfl (EffX.mkS hT rfl rfl rfl rfl rfl rfl rfl rfl (by decide) H) ?_
    rintro _ _ ⟨v_147, h0u297, rfl, rfl, H⟩
    apply Stg.next [(17, _)] rfl rfl
    refine Stg.go [0, 1, 3, 5] [2, 4, 6, 10] rfl rfl (QAll.cons (QOp.p hT rfl rfl rfl rfl rfl) (QAll.cons (QOp.p hT rfl rfl rfl rfl rfl) (QAll.cons (QOp.p hT rfl rfl rfl rfl rfl) (QAll.cons (QOp.p hT rfl rfl rfl rfl rfl) QAll.nil)))) ?_
    refine EAll.cons ?_ ?_
    ·
     replace H := H.self
     replace H := H.1
     refine EOp.e rfl rfl rfl (EffX.mkS hT rfl rfl rfl rfl rfl rfl rfl rfl (by decide) H) ?_
     rintro _ _ ⟨v_148, h0u299, rfl, rfl, H⟩
     apply Stg.next [(11, _)] rfl rfl
     refine Stg.go [3, 5] [4, 6, 10] rfl rfl (QAll.cons (QOp.p hT rfl rfl rfl rfl rfl) (QAll.cons (QOp.p hT rfl rfl rfl rfl rfl) QAll.nil)) ?_
     refine EAll.cons ?_ ?_
     ·
      replace H := H.self
      replace H := H.1
      refine EOp.e rfl rfl rfl (EffX.mkS hT rfl rfl rfl rfl rfl rfl rfl rfl (by decide) H) ?_
      rintro _ _ ⟨v_149, h0u301, rfl, rfl, H⟩
      apply Stg.next [(13, _)] rfl rfl
      refine Stg.go [5] [6, 10] rfl rfl (QAll.cons (QOp.p hT rfl rfl rfl rfl rfl) QAll.nil) ?_
      refine EAll.cons ?_ ?_
      ·
       replace H := H.self
       refine EOp.e rfl rfl rfl (EffX.mkS hT rfl rfl rfl rfl rfl rfl rfl rfl (by decide) H) ?_
       rintro _ _ ⟨v_150, h0u303, rfl, rfl, H⟩
       apply Stg.next [(15, _), (18, _)] rfl rfl
       refine Stg.go [9] [10] rfl rfl (QAll.cons (QOp.q rfl rfl (Quiet1.build (cs := [_, _, _, _, _, _, _, _]) hT rfl rfl rfl rfl rfl rfl) rfl rfl) QAll.nil) ?_
       refine EAll.cons ?_ EAll.nil
       refine EOp.e rfl rfl rfl (EffX.allocP (cs := [_, _, _, _, _, _, _, _]) hT rfl rfl H) ?_
       rintro _ _ ⟨b_49, _, rfl, rfl, he49, H⟩
       apply Stg.next [(4, _)] rfl rfl
       refine Stg.go [9] [11] rfl rfl (QAll.cons (QOp.q rfl rfl (Quiet1.build (cs := [_, _, _, _, _, _, _, _]) hT rfl rfl rfl rfl rfl rfl) rfl rfl) QAll.nil) ?_
       refine EAll.cons ?_ EAll.nil
       refine EOp.e rfl rfl rfl (EffX.storeSP (i := 0) (qv := [(_, [_, _, _, _, _, _, _, _]), (_, [_, _, _, _, _, _, _, _])]) hT rfl rfl rfl rfl rfl rfl rfl rfl rfl rfl) ?_
       rintro _ _ rfl
       apply Stg.next [] rfl rfl
       refine Stg.fin [] rfl rfl QAll.nil ?_
       replace H := H.self
       exact AtE.then_n ((HK1 _ b_49 _ H).pickP (ts := [4, 2]) (is := [0, 1]) rfl rfl (by decide) rfl)
      refine EAll.cons ?_ EAll.nil
      refine EOp.e rfl rfl rfl (EffX.allocP (cs := [_, _, _, _, _, _, _, _]) hT rfl rfl H) ?_
      rintro _ _ ⟨b_50, _, rfl, rfl, he50, H⟩
      apply Stg.next [(4, _)] rfl rfl
      refine Stg.go [5] [6] rfl rfl (QAll.cons (QOp.p hT rfl rfl rfl rfl rfl) QAll.nil) ?_
      refine EAll.cons ?_ EAll.nil
      replace H := H.self
      refine EOp.e rfl rfl rfl (EffX.mkS hT rfl rfl rfl rfl rfl rfl rfl rfl (by decide) H) ?_
      rintro _ _ ⟨v_151, h0u305, rfl, rfl, H⟩
      apply Stg.next [(15, _), (18, _)] rfl rfl
      refine Stg.go [9] [11] rfl rfl (QAll.cons (QOp.q rfl rfl (Quiet1.build (cs := [_, _, _, _, _, _, _, _]) hT rfl rfl rfl rfl rfl rfl) rfl rfl) QAll.nil) ?_
      refine EAll.cons ?_ EAll.nil
      refine EOp.e rfl rfl rfl (EffX.storeSP (i := 0) (qv := [(_, [_, _, _, _, _, _, _, _]), (_, [_, _, _, _, _, _, _, _])]) hT rfl rfl rfl rfl rfl rfl rfl rfl rfl rfl) ?_
      rintro _ _ rfl
      apply Stg.next [] rfl rfl
      refine Stg.fin [] rfl rfl QAll.nil ?_
      replace H := H.self
      exact AtE.then_n ((HK1 _ b_50 _ H).pickP (ts := [4, 2]) (is := [0, 1]) rfl rfl (by decide) rfl)
     refine EAll.cons ?_ ?_
     ·
      replace H := H.self
      replace H := H.2
      refine EOp.e rfl rfl rfl (EffX.mkS hT rfl rfl rfl rfl rfl rfl rfl rfl (by decide) H) ?_
      rintro _ _ ⟨v_152, h0u307, rfl, rfl, H⟩
      apply Stg.next [(15, _)] rfl rfl
      refine Stg.go [3] [4, 10] rfl rfl (QAll.cons (QOp.p hT rfl rfl rfl rfl rfl) QAll.nil) ?_
      refine EAll.cons ?_ ?_
      ·
       replace H := H.self
       refine EOp.e rfl rfl rfl (EffX.mkS hT rfl rfl rfl rfl rfl rfl rfl rfl (by decide) H) ?_
       rintro _ _ ⟨v_153, h0u309, rfl, rfl, H⟩
       apply Stg.next [(13, _), (18, _)] rfl rfl
       refine Stg.go [9] [10] rfl rfl (QAll.cons (QOp.q rfl rfl (Quiet1.build (cs := [_, _, _, _, _, _, _, _]) hT rfl rfl rfl rfl rfl rfl) rfl rfl) QAll.nil) ?_
       refine EAll.cons ?_ EAll.nil
       refine EOp.e rfl rfl rfl (EffX.allocP (cs := [_, _, _, _, _, _, _, _]) hT rfl rfl H) ?_
       rintro _ _ ⟨b_51, _, rfl, rfl, he51, H⟩
       apply Stg.next [(4, _)] rfl rfl
       refine Stg.go [9] [11] rfl rfl (QAll.cons (QOp.q rfl rfl (Quiet1.build (cs := [_, _, _, _, _, _, _, _]) hT rfl rfl rfl rfl rfl rfl) rfl rfl) QAll.nil) ?_
       refine EAll.cons ?_ EAll.nil
       refine EOp.e rfl rfl rfl (EffX.storeSP (i := 0) (qv := [(_, [_, _, _, _, _, _, _, _]), (_, [_, _, _, _, _, _, _, _])]) hT rfl rfl rfl rfl rfl rfl rfl rfl rfl rfl) ?_
       rintro _ _ rfl
       apply Stg.next [] rfl rfl
       refine Stg.fin [] rfl rfl QAll.nil ?_
       replace H := H.self
       exact AtE.then_n ((HK1 _ b_51 _ H).pickP (ts := [4, 2]) (is := [0, 1]) rfl rfl (by decide) rfl)
      refine EAll.cons ?_ EAll.nil
      refine EOp.e rfl rfl rfl (EffX.allocP (cs := [_, _, _, _, _, _, _, _]) hT rfl rfl H) ?_
      rintro _ _ ⟨b_52, _, rfl, rfl, he52, H⟩
      apply Stg.next [(4, _)] rfl rfl
      refine Stg.go [3] [4] rfl rfl (QAll.cons (QOp.p hT rfl rfl rfl rfl rfl) QAll.nil) ?_
      refine EAll.cons ?_ EAll.nil
      replace H := H.self
      refine EOp.e rfl rfl rfl (EffX.mkS hT rfl rfl rfl rfl rfl rfl rfl rfl (by decide) H) ?_
      rintro _ _ ⟨v_154, h0u311, rfl, rfl, H⟩
      apply Stg.next [(13, _), (18, _)] rfl rfl
      refine Stg.go [9] [11] rfl rfl (QAll.cons (QOp.q rfl rfl (Quiet1.build (cs := [_, _, _, _, _, _, _, _]) hT rfl rfl rfl rfl rfl rfl) rfl rfl) QAll.nil) ?_
      refine EAll.cons ?_ EAll.nil
      refine EOp.e rfl rfl rfl (EffX.storeSP (i := 0) (qv := [(_, [_, _, _, _, _, _, _, _]), (_, [_, _, _, _, _, _, _, _])]) hT rfl rfl rfl rfl rfl rfl rfl rfl rfl rfl) ?_
      rintro _ _ rfl
      apply Stg.next [] rfl rfl
      refine Stg.fin [] rfl rfl QAll.nil ?_
      replace H := H.self
      exact AtE.then_n ((HK1 _ b_52 _ H).pickP (ts := [4, 2]) (is := [0, 1]) rfl rfl (by decide) rfl)
     refine EAll.cons ?_ EAll.nil
     refine EOp.e rfl rfl rfl (EffX.allocP (cs := [_, _, _, _, _, _, _, _]) hT rfl rfl H) ?_
     rintro _ _ ⟨b_53, _, rfl, rfl, he53, H⟩
     apply Stg.next [(4, _)] rfl rfl
     refine Stg.go [3, 5] [4, 6] rfl rfl (QAll.cons (QOp.p hT rfl rfl rfl rfl rfl) (QAll.cons (QOp.p hT rfl rfl rfl rfl rfl) QAll.nil)) ?_
     refine EAll.cons ?_ ?_
     ·
      replace H := H.self
      replace H := H.1
      refine EOp.e rfl rfl rfl (EffX.mkS hT rfl rfl rfl rfl rfl rfl rfl rfl (by decide) H) ?_
      rintro _ _ ⟨v_155, h0u313, rfl, rfl, H⟩
      apply Stg.next [(13, _)] rfl rfl
      refine Stg.go [5] [6] rfl rfl (QAll.cons (QOp.p hT rfl rfl rfl rfl rfl) QAll.nil) ?_
      refine EAll.cons ?_ EAll.nil
      replace H := H.self
      refine EOp.e rfl rfl rfl (EffX.mkS hT rfl rfl rfl rfl rfl rfl rfl rfl (by decide) H) ?_
      rintro _ _ ⟨v_156, h0u315, rfl, rfl, H⟩
      apply Stg.next [(15, _), (18, _)] rfl rfl
      refine Stg.go [9] [11] rfl rfl (QAll.cons (QOp.q rfl rfl (Quiet1.build (cs := [_, _, _, _, _, _, _, _]) hT rfl rfl rfl rfl rfl rfl) rfl rfl) QAll.nil) ?_
      refine EAll.cons ?_ EAll.nil
      refine EOp.e rfl rfl rfl (EffX.storeSP (i := 0) (qv := [(_, [_, _, _, _, _, _, _, _]), (_, [_, _, _, _, _, _, _, _])]) hT rfl rfl rfl rfl rfl rfl rfl rfl rfl rfl) ?_
      rintro _ _ rfl
      apply Stg.next [] rfl rfl
      refine Stg.fin [] rfl rfl QAll.nil ?_
      replace H := H.self
      exact AtE.then_n ((HK1 _ b_53 _ H).pickP (ts := [4, 2]) (is := [0, 1]) rfl rfl (by decide) rfl)
     refine EAll.cons ?_ EAll.nil
     replace H := H.self
     replace H := H.2
     refine EOp.e rfl rfl rfl (EffX.mkS hT rfl rfl rfl rfl rfl rfl rfl rfl (by decide) H) ?_
     rintro _ _ ⟨v_157, h0u317, rfl, rfl, H⟩
     apply Stg.next [(15, _)] rfl rfl
     refine Stg.go [3] [4] rfl rfl (QAll.cons (QOp.p hT rfl rfl rfl rfl rfl) QAll.nil) ?_
     refine EAll.cons ?_ EAll.nil
     replace H := H.self
     refine EOp.e rfl rfl rfl (EffX.mkS hT rfl rfl rfl rfl rfl rfl rfl rfl (by decide) H) ?_
     rintro _ _ ⟨v_158, h0u319, rfl, rfl, H⟩
     apply Stg.next [(13, _), (18, _)] rfl rfl
     refine Stg.go [9] [11] rfl rfl (QAll.cons (QOp.q rfl rfl (Quiet1.build (cs := [_, _, _, _, _, _, _, _]) hT rfl rfl rfl rfl rfl rfl) rfl rfl) QAll.nil) ?_
     refine EAll.cons ?_ EAll.nil
     refine EOp.e rfl rfl rfl (EffX.storeSP (i := 0) (qv := [(_, [_, _, _, _, _, _, _, _]), (_, [_, _, _, _, _, _, _, _])]) hT rfl rfl rfl rfl rfl rfl rfl rfl rfl rfl) ?_
     rintro _ _ rfl
     apply Stg.next [] rfl rfl
     refine Stg.fin [] rfl rfl QAll.nil ?_
     replace H := H.self
     exact AtE.then_n ((HK1 _ b_53 _ H).pickP (ts := [4, 2]) (is := [0, 1]) rfl rfl (by decide) rfl)
    refine EAll.cons ?_ ?_
    ·
     replace H := H.self
     replace H := H.2.1
     refine EOp.e rfl rfl rfl (EffX.mkS hT rfl rfl rfl rfl rfl rfl rfl rfl (by decide) H) ?_
     rintro _ _ ⟨v_159, h0u321, rfl, rfl, H⟩
     apply Stg.next [(13, _)] rfl rfl
     refine Stg.go [0, 1, 5] [2, 6, 10] rfl rfl (QAll.cons (QOp.p hT rfl rfl rfl rfl rfl) (QAll.cons (QOp.p hT rfl rfl rfl rfl rfl) (QAll.cons (QOp.p hT rfl rfl rfl rfl rfl) QAll.nil))) ?_
     refine EAll.cons ?_ ?_
     ·
      replace H := H.self
      replace H := H.1
      refine EOp.e rfl rfl rfl (EffX.mkS hT rfl rfl rfl rfl rfl rfl rfl rfl (by decide) H) ?_
      rintro _ _ ⟨v_160, h0u323, rfl, rfl, H⟩
      apply Stg.next [(11, _)] rfl rfl
      refine Stg.go [5] [6, 10] rfl rfl (QAll.cons (QOp.p hT rfl rfl rfl rfl rfl) QAll.nil) ?_
      refine EAll.cons ?_ ?_
      ·
       replace H := H.self
       refine EOp.e rfl rfl rfl (EffX.mkS hT rfl rfl rfl rfl rfl rfl rfl rfl (by decide) H) ?_
       rintro _ _ ⟨v_161, h0u325, rfl, rfl, H⟩
       apply Stg.next [(15, _), (18, _)] rfl rfl
       refine Stg.go [9] [10] rfl rfl (QAll.cons (QOp.q rfl rfl (Quiet1.build (cs := [_, _, _, _, _, _, _, _]) hT rfl rfl rfl rfl rfl rfl) rfl rfl) QAll.nil) ?_
       refine EAll.cons ?_ EAll.nil
       refine EOp.e rfl rfl rfl (EffX.allocP (cs := [_, _, _, _, _, _, _, _]) hT rfl rfl H) ?_
       rintro _ _ ⟨b_54, _, rfl, rfl, he54, H⟩
       apply Stg.next [(4, _)] rfl rfl
       refine Stg.go [9] [11] rfl rfl (QAll.cons (QOp.q rfl rfl (Quiet1.build (cs := [_, _, _, _, _, _, _, _]) hT rfl rfl rfl rfl rfl rfl) rfl rfl) QAll.nil) ?_
       refine EAll.cons ?_ EAll.nil
       refine EOp.e rfl rfl rfl (EffX.storeSP (i := 0) (qv := [(_, [_, _, _, _, _, _, _, _]), (_, [_, _, _, _, _, _, _, _])]) hT rfl rfl rfl rfl rfl rfl rfl rfl rfl rfl) ?_
       rintro _ _ rfl
       apply Stg.next [] rfl rfl
       refine Stg.fin [] rfl rfl QAll.nil ?_
       replace H := H.self
       exact AtE.then_n ((HK1 _ b_54 _ H).pickP (ts := [4, 2]) (is := [0, 1]) rfl rfl (by decide) rfl)
      refine EAll.cons ?_ EAll.nil
      refine EOp.e rfl rfl rfl (EffX.allocP (cs := [_, _, _, _, _, _, _, _]) hT rfl rfl H) ?_
      rintro _ _ ⟨b_55, _, rfl, rfl, he55, H⟩
      apply Stg.next [(4, _)] rfl rfl
      refine Stg.go [5] [6] rfl rfl (QAll.cons (QOp.p hT rfl rfl rfl rfl rfl) QAll.nil) ?_
      refine EAll.cons ?_ EAll.nil
      replace H := H.self
      refine EOp.e rfl rfl rfl (EffX.mkS hT rfl rfl rfl rfl rfl rfl rfl rfl (by decide) H) ?_
      rintro _ _ ⟨v_162, h0u327, rfl, rfl, H⟩
      apply Stg.next [(15, _), (18, _)] rfl rfl
      refine Stg.go [9] [11] rfl rfl (QAll.cons (QOp.q rfl rfl (Quiet1.build (cs := [_, _, _, _, _, _, _, _]) hT rfl rfl rfl rfl rfl rfl) rfl rfl) QAll.nil) ?_
      refine EAll.cons ?_ EAll.nil
      refine EOp.e rfl rfl rfl (EffX.storeSP (i := 0) (qv := [(_, [_, _, _, _, _, _, _, _]), (_, [_, _, _, _, _, _, _, _])]) hT rfl rfl rfl rfl rfl rfl rfl rfl rfl rfl) ?_
      rintro _ _ rfl
      apply Stg.next [] rfl rfl
      refine Stg.fin [] rfl rfl QAll.nil ?_
      replace H := H.self
      exact AtE.then_n ((HK1 _ b_55 _ H).pickP (ts := [4, 2]) (is := [0, 1]) rfl rfl (by decide) rfl)
     refine EAll.cons ?_ ?_
     ·
      replace H := H.self
      replace H := H.2
      refine EOp.e rfl rfl rfl (EffX.mkS hT rfl rfl rfl rfl rfl rfl rfl rfl (by decide) H) ?_
      rintro _ _ ⟨v_163, h0u329, rfl, rfl, H⟩
      apply Stg.next [(15, _)] rfl rfl
      refine Stg.go [0, 1] [2, 10] rfl rfl (QAll.cons (QOp.p hT rfl rfl rfl rfl rfl) (QAll.cons (QOp.p hT rfl rfl rfl rfl rfl) QAll.nil)) ?_
      refine EAll.cons ?_ ?_
      ·
       replace H := H.self
       refine EOp.e rfl rfl rfl (EffX.mkS hT rfl rfl rfl rfl rfl rfl rfl rfl (by decide) H) ?_
       rintro _ _ ⟨v_164, h0u331, rfl, rfl, H⟩
       apply Stg.next [(11, _), (18, _)] rfl rfl
       refine Stg.go [9] [10] rfl rfl (QAll.cons (QOp.q rfl rfl (Quiet1.build (cs := [_, _, _, _, _, _, _, _]) hT rfl rfl rfl rfl rfl rfl) rfl rfl) QAll.nil) ?_
       refine EAll.cons ?_ EAll.nil
       refine EOp.e rfl rfl rfl (EffX.allocP (cs := [_, _, _, _, _, _, _, _]) hT rfl rfl H) ?_
       rintro _ _ ⟨b_56, _, rfl, rfl, he56, H⟩
       apply Stg.next [(4, _)] rfl rfl
       refine Stg.go [9] [11] rfl rfl (QAll.cons (QOp.q rfl rfl (Quiet1.build (cs := [_, _, _, _, _, _, _, _]) hT rfl rfl rfl rfl rfl rfl) rfl rfl) QAll.nil) ?_
       refine EAll.cons ?_ EAll.nil
       refine EOp.e rfl rfl rfl (EffX.storeSP (i := 0) (qv := [(_, [_, _, _, _, _, _, _, _]), (_, [_, _, _, _, _, _, _, _])]) hT rfl rfl rfl rfl rfl rfl rfl rfl rfl rfl) ?_
       rintro _ _ rfl
       apply Stg.next [] rfl rfl
       refine Stg.fin [] rfl rfl QAll.nil ?_
       replace H := H.self
       exact AtE.then_n ((HK1 _ b_56 _ H).pickP (ts := [4, 2]) (is := [0, 1]) rfl rfl (by decide) rfl)
      refine EAll.cons ?_ EAll.nil
      refine EOp.e rfl rfl rfl (EffX.allocP (cs := [_, _, _, _, _, _, _, _]) hT rfl rfl H) ?_
      rintro _ _ ⟨b_57, _, rfl, rfl, he57, H⟩
      apply Stg.next [(4, _)] rfl rfl
      refine Stg.go [0, 1] [2] rfl rfl (QAll.cons (QOp.p hT rfl rfl rfl rfl rfl) (QAll.cons (QOp.p hT rfl rfl rfl rfl rfl) QAll.nil)) ?_
      refine EAll.cons ?_ EAll.nil
      replace H := H.self
      refine EOp.e rfl rfl rfl (EffX.mkS hT rfl rfl rfl rfl rfl rfl rfl rfl (by decide) H) ?_
      rintro _ _ ⟨v_165, h0u333, rfl, rfl, H⟩
      apply Stg.next [(11, _), (18, _)] rfl rfl
      refine Stg.go [9] [11] rfl rfl (QAll.cons (QOp.q rfl rfl (Quiet1.build (cs := [_, _, _, _, _, _, _, _]) hT rfl rfl rfl rfl rfl rfl) rfl rfl) QAll.nil) ?_
      refine EAll.cons ?_ EAll.nil
      refine EOp.e rfl rfl rfl (EffX.storeSP (i := 0) (qv := [(_, [_, _, _, _, _, _, _, _]), (_, [_, _, _, _, _, _, _, _])]) hT rfl rfl rfl rfl rfl rfl rfl rfl rfl rfl) ?_
      rintro _ _ rfl
      apply Stg.next [] rfl rfl
      refine Stg.fin [] rfl rfl QAll.nil ?_
      replace H := H.self
      exact AtE.then_n ((HK1 _ b_57 _ H).pickP (ts := [4, 2]) (is := [0, 1]) rfl rfl (by decide) rfl)
     refine EAll.cons ?_ EAll.nil
     refine EOp.e rfl rfl rfl (EffX.allocP (cs := [_, _, _, _, _, _, _, _]) hT rfl rfl H) ?_
     rintro _ _ ⟨b_58, _, rfl, rfl, he58, H⟩
     apply Stg.next [(4, _)] rfl rfl
     refine Stg.go [0, 1, 5] [2, 6] rfl rfl (QAll.cons (QOp.p hT rfl rfl rfl rfl rfl) (QAll.cons (QOp.p hT rfl rfl rfl rfl rfl) (QAll.cons (QOp.p hT rfl rfl rfl rfl rfl) QAll.nil))) ?_
     refine EAll.cons ?_ ?_
     ·
      replace H := H.self
      replace H := H.1
      refine EOp.e rfl rfl rfl (EffX.mkS hT rfl rfl rfl rfl rfl rfl rfl rfl (by decide) H) ?_
      rintro _ _ ⟨v_166, h0u335, rfl, rfl, H⟩
      apply Stg.next [(11, _)] rfl rfl
      refine Stg.go [5] [6] rfl rfl (QAll.cons (QOp.p hT rfl rfl rfl rfl rfl) QAll.nil) ?_
      refine EAll.cons ?_ EAll.nil
      replace H := H.self
      refine EOp.e rfl rfl rfl (EffX.mkS hT rfl rfl rfl rfl rfl rfl rfl rfl (by decide) H) ?_
      rintro _ _ ⟨v_167, h0u337, rfl, rfl, H⟩
      apply Stg.next [(15, _), (18, _)] rfl rfl
      refine Stg.go [9] [11] rfl rfl (QAll.cons (QOp.q rfl rfl (Quiet1.build (cs := [_, _, _, _, _, _, _, _]) hT rfl rfl rfl rfl rfl rfl) rfl rfl) QAll.nil) ?_
      refine EAll.cons ?_ EAll.nil
      refine EOp.e rfl rfl rfl (EffX.storeSP (i := 0) (qv := [(_, [_, _, _, _, _, _, _, _]), (_, [_, _, _, _, _, _, _, _])]) hT rfl rfl rfl rfl rfl rfl rfl rfl rfl rfl) ?_
      rintro _ _ rfl
      apply Stg.next [] rfl rfl
      refine Stg.fin [] rfl rfl QAll.nil ?_
      replace H := H.self
      exact AtE.then_n ((HK1 _ b_58 _ H).pickP (ts := [4, 2]) (is := [0, 1]) rfl rfl (by decide) rfl)
     refine EAll.cons ?_ EAll.nil
     replace H := H.self
     replace H := H.2
     refine EOp.e rfl rfl rfl (EffX.mkS hT rfl rfl rfl rfl rfl rfl rfl rfl (by decide) H) ?_
     rintro _ _ ⟨v_168, h0u339, rfl, rfl, H⟩
     apply Stg.next [(15, _)] rfl rfl
     refine Stg.go [0, 1] [2] rfl rfl (QAll.cons (QOp.p hT rfl rfl rfl rfl rfl) (QAll.cons (QOp.p hT rfl rfl rfl rfl rfl) QAll.nil)) ?_
     refine EAll.cons ?_ EAll.nil
     replace H := H.self
     refine EOp.e rfl rfl rfl (EffX.mkS hT rfl rfl rfl rfl rfl rfl rfl rfl (by decide) H) ?_
     rintro _ _ ⟨v_169, h0u341, rfl, rfl, H⟩
     apply Stg.next [(11, _), (18, _)] rfl rfl
     refine Stg.go [9] [11] rfl rfl (QAll.cons (QOp.q rfl rfl (Quiet1.build (cs := [_, _, _, _, _, _, _, _]) hT rfl rfl rfl rfl rfl rfl) rfl rfl) QAll.nil) ?_
     refine EAll.cons ?_ EAll.nil
     refine EOp.e rfl rfl rfl (EffX.storeSP (i := 0) (qv := [(_, [_, _, _, _, _, _, _, _]), (_, [_, _, _, _, _, _, _, _])]) hT rfl rfl rfl rfl rfl rfl rfl rfl rfl rfl) ?_
     rintro _ _ rfl
     apply Stg.next [] rfl rfl
     refine Stg.fin [] rfl rfl QAll.nil ?_
     replace H := H.self
     exact AtE.then_n ((HK1 _ b_58 _ H).pickP (ts := [4, 2]) (is := [0, 1]) rfl rfl (by decide) rfl)
    refine EAll.cons ?_ ?_
    ·
     replace H := H.self
     replace H := H.2.2
     refine EOp.e rfl rfl rfl (EffX.mkS hT rfl rfl rfl rfl rfl rfl rfl rfl (by decide) H) ?_
     rintro _ _ ⟨v_170, h0u343, rfl, rfl, H⟩
     apply Stg.next [(15, _)] rfl rfl
     refine Stg.go [0, 1, 3] [2, 4, 10] rfl rfl (QAll.cons (QOp.p hT rfl rfl rfl rfl rfl) (QAll.cons (QOp.p hT rfl rfl rfl rfl rfl) (QAll.cons (QOp.p hT rfl rfl rfl rfl rfl) QAll.nil))) ?_
     refine EAll.cons ?_ ?_
     ·
      replace H := H.self
      replace H := H.1
      refine EOp.e rfl rfl rfl (EffX.mkS hT rfl rfl rfl rfl rfl rfl rfl rfl (by decide) H) ?_
      rintro _ _ ⟨v_171, h0u345, rfl, rfl, H⟩
      apply Stg.next [(11, _)] rfl rfl
      refine Stg.go [3] [4, 10] rfl rfl (QAll.cons (QOp.p hT rfl rfl rfl rfl rfl) QAll.nil) ?_
      refine EAll.cons ?_ ?_
      ·
       replace H := H.self
       refine EOp.e rfl rfl rfl (EffX.mkS hT rfl rfl rfl rfl rfl rfl rfl rfl (by decide) H) ?_
       rintro _ _ ⟨v_172, h0u347, rfl, rfl, H⟩
       apply Stg.next [(13, _), (18, _)] rfl rfl
       refine Stg.go [9] [10] rfl rfl (QAll.cons (QOp.q rfl rfl (Quiet1.build (cs := [_, _, _, _, _, _, _, _]) hT rfl rfl rfl rfl rfl rfl) rfl rfl) QAll.nil) ?_
       refine EAll.cons ?_ EAll.nil
       refine EOp.e rfl rfl rfl (EffX.allocP (cs := [_, _, _, _, _, _, _, _]) hT rfl rfl H) ?_
       rintro _ _ ⟨b_59, _, rfl, rfl, he59, H⟩
       apply Stg.next [(4, _)] rfl rfl
       refine Stg.go [9] [11] rfl rfl (QAll.cons (QOp.q rfl rfl (Quiet1.build (cs := [_, _, _, _, _, _, _, _]) hT rfl rfl rfl rfl rfl rfl) rfl rfl) QAll.nil) ?_
       refine EAll.cons ?_ EAll.nil
       refine EOp.e rfl rfl rfl (EffX.storeSP (i := 0) (qv := [(_, [_, _, _, _, _, _, _, _]), (_, [_, _, _, _, _, _, _, _])]) hT rfl rfl rfl rfl rfl rfl rfl rfl rfl rfl) ?_
       rintro _ _ rfl
       apply Stg.next [] rfl rfl
       refine Stg.fin [] rfl rfl QAll.nil ?_
       replace H := H.self
       exact AtE.then_n ((HK1 _ b_59 _ H).pickP (ts := [4, 2]) (is := [0, 1]) rfl rfl (by decide) rfl)
      refine EAll.cons ?_ EAll.nil
      refine EOp.e rfl rfl rfl (EffX.allocP (cs := [_, _, _, _, _, _, _, _]) hT rfl rfl H) ?_
      rintro _ _ ⟨b_60, _, rfl, rfl, he60, H⟩
      apply Stg.next [(4, _)] rfl rfl
      refine Stg.go [3] [4] rfl rfl (QAll.cons (QOp.p hT rfl rfl rfl rfl rfl) QAll.nil) ?_
      refine EAll.cons ?_ EAll.nil
      replace H := H.self
      refine EOp.e rfl rfl rfl (EffX.mkS hT rfl rfl rfl rfl rfl rfl rfl rfl (by decide) H) ?_
      rintro _ _ ⟨v_173, h0u349, rfl, rfl, H⟩
      apply Stg.next [(13, _), (18, _)] rfl rfl
      refine Stg.go [9] [11] rfl rfl (QAll.cons (QOp.q rfl rfl (Quiet1.build (cs := [_, _, _, _, _, _, _, _]) hT rfl rfl rfl rfl rfl rfl) rfl rfl) QAll.nil) ?_
      refine EAll.cons ?_ EAll.nil
      refine EOp.e rfl rfl rfl (EffX.storeSP (i := 0) (qv := [(_, [_, _, _, _, _, _, _, _]), (_, [_, _, _, _, _, _, _, _])]) hT rfl rfl rfl rfl rfl rfl rfl rfl rfl rfl) ?_
      rintro _ _ rfl
      apply Stg.next [] rfl rfl
      refine Stg.fin [] rfl rfl QAll.nil ?_
      replace H := H.self
      exact AtE.then_n ((HK1 _ b_60 _ H).pickP (ts := [4, 2]) (is := [0, 1]) rfl rfl (by decide) rfl)
     refine EAll.cons ?_ ?_
     ·
      replace H := H.self
      replace H := H.2
      refine EOp.e rfl rfl rfl (EffX.mkS hT rfl rfl rfl rfl rfl rfl rfl rfl (by decide) H) ?_
      rintro _ _ ⟨v_174, h0u351, rfl, rfl, H⟩
      apply Stg.next [(13, _)] rfl rfl
      refine Stg.go [0, 1] [2, 10] rfl rfl (QAll.cons (QOp.p hT rfl rfl rfl rfl rfl) (QAll.cons (QOp.p hT rfl rfl rfl rfl rfl) QAll.nil)) ?_
      refine EAll.cons ?_ ?_
      ·
       replace H := H.self
       refine EOp.e rfl rfl rfl (EffX.mkS hT rfl rfl rfl rfl rfl rfl rfl rfl (by decide) H) ?_
       rintro _ _ ⟨v_175, h0u353, rfl, rfl, H⟩
       apply Stg.next [(11, _), (18, _)] rfl rfl
       refine Stg.go [9] [10] rfl rfl (QAll.cons (QOp.q rfl rfl (Quiet1.build (cs := [_, _, _, _, _, _, _, _]) hT rfl rfl rfl rfl rfl rfl) rfl rfl) QAll.nil) ?_
       refine EAll.cons ?_ EAll.nil
       refine EOp.e rfl rfl rfl (EffX.allocP (cs := [_, _, _, _, _, _, _, _]) hT rfl rfl H) ?_
       rintro _ _ ⟨b_61, _, rfl, rfl, he61, H⟩
       apply Stg.next [(4, _)] rfl rfl
       refine Stg.go [9] [11] rfl rfl (QAll.cons (QOp.q rfl rfl (Quiet1.build (cs := [_, _, _, _, _, _, _, _]) hT rfl rfl rfl rfl rfl rfl) rfl rfl) QAll.nil) ?_
       refine EAll.cons ?_ EAll.nil
       refine EOp.e rfl rfl rfl (EffX.storeSP (i := 0) (qv := [(_, [_, _, _, _, _, _, _, _]), (_, [_, _, _, _, _, _, _, _])]) hT rfl rfl rfl rfl rfl rfl rfl rfl rfl rfl) ?_
       rintro _ _ rfl
       apply Stg.next [] rfl rfl
       refine Stg.fin [] rfl rfl QAll.nil ?_
       replace H := H.self
       exact AtE.then_n ((HK1 _ b_61 _ H).pickP (ts := [4, 2]) (is := [0, 1]) rfl rfl (by decide) rfl)
      refine EAll.cons ?_ EAll.nil
      refine EOp.e rfl rfl rfl (EffX.allocP (cs := [_, _, _, _, _, _, _, _]) hT rfl rfl H) ?_
      rintro _ _ ⟨b_62, _, rfl, rfl, he62, H⟩
      apply Stg.next [(4, _)] rfl rfl
      refine Stg.go [0, 1] [2] rfl rfl (QAll.cons (QOp.p hT rfl rfl rfl rfl rfl) (QAll.cons (QOp.p hT rfl rfl rfl rfl rfl) QAll.nil)) ?_
      refine EAll.cons ?_ EAll.nil
      replace H := H.self
      refine EOp.e rfl rfl rfl (EffX.mkS hT rfl rfl rfl rfl rfl rfl rfl rfl (by decide) H) ?_
      rintro _ _ ⟨v_176, h0u355, rfl, rfl, H⟩
      apply Stg.next [(11, _), (18, _)] rfl rfl
      refine Stg.go [9] [11] rfl rfl (QAll.cons (QOp.q rfl rfl (Quiet1.build (cs := [_, _, _, _, _, _, _, _]) hT rfl rfl rfl rfl rfl rfl) rfl rfl) QAll.nil) ?_
      refine EAll.cons ?_ EAll.nil
      refine EOp.e rfl rfl rfl (EffX.storeSP (i := 0) (qv := [(_, [_, _, _, _, _, _, _, _]), (_, [_, _, _, _, _, _, _, _])]) hT rfl rfl rfl rfl rfl rfl rfl rfl rfl rfl) ?_
      rintro _ _ rfl
      apply Stg.next [] rfl rfl
      refine Stg.fin [] rfl rfl QAll.nil ?_
      replace H := H.self
      exact AtE.then_n ((HK1 _ b_62 _ H).pickP (ts := [4, 2]) (is := [0, 1]) rfl rfl (by decide) rfl)
     refine EAll.cons ?_ EAll.nil
     refine EOp.e rfl rfl rfl (EffX.allocP (cs := [_, _, _, _, _, _, _, _]) hT rfl rfl H) ?_
     rintro _ _ ⟨b_63, _, rfl, rfl, he63, H⟩
     apply Stg.next [(4, _)] rfl rfl
     refine Stg.go [0, 1, 3] [2, 4] rfl rfl (QAll.cons (QOp.p hT rfl rfl rfl rfl rfl) (QAll.cons (QOp.p hT rfl rfl rfl rfl rfl) (QAll.cons (QOp.p hT rfl rfl rfl rfl rfl) QAll.nil))) ?_
     refine EAll.cons ?_ ?_
     ·
      replace H := H.self
      replace H := H.1
      refine EOp.e rfl rfl rfl (EffX.mkS hT rfl rfl rfl rfl rfl rfl rfl rfl (by decide) H) ?_
      rintro _ _ ⟨v_177, h0u357, rfl, rfl, H⟩
      apply Stg.next [(11, _)] rfl rfl
      refine Stg.go [3] [4] rfl rfl (QAll.cons (QOp.p hT rfl rfl rfl rfl rfl) QAll.nil) ?_
      refine EAll.cons ?_ EAll.nil
      replace H := H.self
      refine EOp.e rfl rfl rfl (EffX.mkS hT rfl rfl rfl rfl rfl rfl rfl rfl (by decide) H) ?_
      rintro _ _ ⟨v_178, h0u359, rfl, rfl, H⟩
      apply Stg.next [(13, _), (18, _)] rfl rfl
      refine Stg.go [9] [11] rfl rfl (QAll.cons (QOp.q rfl rfl (Quiet1.build (cs := [_, _, _, _, _, _, _, _]) hT rfl rfl rfl rfl rfl rfl) rfl rfl) QAll.nil) ?_
      refine EAll.cons ?_ EAll.nil
      refine EOp.e rfl rfl rfl (EffX.storeSP (i := 0) (qv := [(_, [_, _, _, _, _, _, _, _]), (_, [_, _, _, _, _, _, _, _])]) hT rfl rfl rfl rfl rfl rfl rfl rfl rfl rfl) ?_
      rintro _ _ rfl
      apply Stg.next [] rfl rfl
      refine Stg.fin [] rfl rfl QAll.nil ?_
      replace H := H.self
      exact AtE.then_n ((HK1 _ b_63 _ H).pickP (ts := [4, 2]) (is := [0, 1]) rfl rfl (by decide) rfl)
     refine EAll.cons ?_ EAll.nil
     replace H := H.self
     replace H := H.2
     refine EOp.e rfl rfl rfl (EffX.mkS hT rfl rfl rfl rfl rfl rfl rfl rfl (by decide) H) ?_
     rintro _ _ ⟨v_179, h0u361, rfl, rfl, H⟩
     apply Stg.next [(13, _)] rfl rfl
     refine Stg.go [0, 1] [2] rfl rfl (QAll.cons (QOp.p hT rfl rfl rfl rfl rfl) (QAll.cons (QOp.p hT rfl rfl rfl rfl rfl) QAll.nil)) ?_
     refine EAll.cons ?_ EAll.nil
     replace H := H.self
     refine EOp.e rfl rfl rfl (EffX.mkS hT rfl rfl rfl rfl rfl rfl rfl rfl (by decide) H) ?_
     rintro _ _ ⟨v_180, h0u363, rfl, rfl, H⟩
     apply Stg.next [(11, _), (18, _)] rfl rfl
     refine Stg.go [9] [11] rfl rfl (QAll.cons (QOp.q rfl rfl (Quiet1.build (cs := [_, _, _, _, _, _, _, _]) hT rfl rfl rfl rfl rfl rfl) rfl rfl) QAll.nil) ?_
     refine EAll.cons ?_ EAll.nil
     refine EOp.e rfl rfl rfl (EffX.storeSP (i := 0) (qv := [(_, [_, _, _, _, _, _, _, _]), (_, [_, _, _, _, _, _, _, _])]) hT rfl rfl rfl rfl rfl rfl rfl rfl rfl rfl) ?_
     rintro _ _ rfl
     apply Stg.next [] rfl rfl
     refine Stg.fin [] rfl rfl QAll.nil ?_
     replace H := H.self
     exact AtE.then_n ((HK1 _ b_63 _ H).pickP (ts := [4, 2]) (is := [0, 1]) rfl rfl (by decide) rfl)
    refine EAll.cons ?_ EAll.nil
    refine EOp.e rfl rfl rfl (EffX.allocP (cs := [_, _, _, _, _, _, _, _]) hT rfl rfl H) ?_
    rintro _ _ ⟨b_64, _, rfl, rfl, he64, H⟩
    apply Stg.next [(4, _)] rfl rfl
    refine Stg.go [0, 1, 3, 5] [2, 4, 6] rfl rfl (QAll.cons (QOp.p hT rfl rfl rfl rfl rfl) (QAll.cons (QOp.p hT rfl rfl rfl rfl rfl) (QAll.cons (QOp.p hT rfl rfl rfl rfl rfl) (QAll.cons (QOp.p hT rfl rfl rfl rfl rfl) QAll.nil)))) ?_
    refine EAll.cons ?_ ?_
    ·
     replace H := H.self
     replace H := H.1
     refine EOp.e rfl rfl rfl (EffX.mkS hT rfl rfl rfl rfl rfl rfl rfl rfl (by decide) H) ?_
     rintro _ _ ⟨v_181, h0u365, rfl, rfl, H⟩
     apply Stg.next [(11, _)] rfl rfl
     refine Stg.go [3, 5] [4, 6] rfl rfl (QAll.cons (QOp.p hT rfl rfl rfl rfl rfl) (QAll.cons (QOp.p hT rfl rfl rfl rfl rfl) QAll.nil)) ?_
     refine EAll.cons ?_ ?_
     ·
      replace H := H.self
      replace H := H.1
      refine EOp.e rfl rfl rfl (EffX.mkS hT rfl rfl rfl rfl rfl rfl rfl rfl (by decide) H) ?_
      rintro _ _ ⟨v_182, h0u367, rfl, rfl, H⟩
      apply Stg.next [(13, _)] rfl rfl
      refine Stg.go [5] [6] rfl rfl (QAll.cons (QOp.p hT rfl rfl rfl rfl rfl) QAll.nil) ?_
      refine EAll.cons ?_ EAll.nil
      replace H := H.self
      refine EOp.e rfl rfl rfl (EffX.mkS hT rfl rfl rfl rfl rfl rfl rfl rfl (by decide) H) ?_
      rintro _ _ ⟨v_183, h0u369, rfl, rfl, H⟩
      apply Stg.next [(15, _), (18, _)] rfl rfl
      refine Stg.go [9] [11] rfl rfl (QAll.cons (QOp.q rfl rfl (Quiet1.build (cs := [_, _, _, _, _, _, _, _]) hT rfl rfl rfl rfl rfl rfl) rfl rfl) QAll.nil) ?_
      refine EAll.cons ?_ EAll.nil
      refine EOp.e rfl rfl rfl (EffX.storeSP (i := 0) (qv := [(_, [_, _, _, _, _, _, _, _]), (_, [_, _, _, _, _, _, _, _])]) hT rfl rfl rfl rfl rfl rfl rfl rfl rfl rfl) ?_
      rintro _ _ rfl
      apply Stg.next [] rfl rfl
      refine Stg.fin [] rfl rfl QAll.nil ?_
      replace H := H.self
      exact AtE.then_n ((HK1 _ b_64 _ H).pickP (ts := [4, 2]) (is := [0, 1]) rfl rfl (by decide) rfl)
     refine EAll.cons ?_ EAll.nil
     replace H := H.self
     replace H := H.2
     refine EOp.e rfl rfl rfl (EffX.mkS hT rfl rfl rfl rfl rfl rfl rfl rfl (by decide) H) ?_
     rintro _ _ ⟨v_184, h0u371, rfl, rfl, H⟩
     apply Stg.next [(15, _)] rfl rfl
     refine Stg.go [3] [4] rfl rfl (QAll.cons (QOp.p hT rfl rfl rfl rfl rfl) QAll.nil) ?_
     refine EAll.cons ?_ EAll.nil
     replace H := H.self
     refine EOp.e rfl rfl rfl (EffX.mkS hT rfl rfl rfl rfl rfl rfl rfl rfl (by decide) H) ?_
     rintro _ _ ⟨v_185, h0u373, rfl, rfl, H⟩
     apply Stg.next [(13, _), (18, _)] rfl rfl
     refine Stg.go [9] [11] rfl rfl (QAll.cons (QOp.q rfl rfl (Quiet1.build (cs := [_, _, _, _, _, _, _, _]) hT rfl rfl rfl rfl rfl rfl) rfl rfl) QAll.nil) ?_
     refine EAll.cons ?_ EAll.nil
     refine EOp.e rfl rfl rfl (EffX.storeSP (i := 0) (qv := [(_, [_, _, _, _, _, _, _, _]), (_, [_, _, _, _, _, _, _, _])]) hT rfl rfl rfl rfl rfl rfl rfl rfl rfl rfl) ?_
     rintro _ _ rfl
     apply Stg.next [] rfl rfl
     refine Stg.fin [] rfl rfl QAll.nil ?_
     replace H := H.self
     exact AtE.then_n ((HK1 _ b_64 _ H).pickP (ts := [4, 2]) (is := [0, 1]) rfl rfl (by decide) rfl)
    refine EAll.cons ?_ ?_
    ·
     replace H := H.self
     replace H := H.2.1
     refine EOp.e rfl rfl rfl (EffX.mkS hT rfl rfl rfl rfl rfl rfl rfl rfl (by decide) H) ?_
     rintro _ _ ⟨v_186, h0u375, rfl, rfl, H⟩
     apply Stg.next [(13, _)] rfl rfl
     refine Stg.go [0, 1, 5] [2, 6] rfl rfl (QAll.cons (QOp.p hT rfl rfl rfl rfl rfl) (QAll.cons (QOp.p hT rfl rfl rfl rfl rfl) (QAll.cons (QOp.p hT rfl rfl rfl rfl rfl) QAll.nil))) ?_
     refine EAll.cons ?_ ?_
     ·
      replace H := H.self
      replace H := H.1
      refine EOp.e rfl rfl rfl (EffX.mkS hT rfl rfl rfl rfl rfl rfl rfl rfl (by decide) H) ?_
      rintro _ _ ⟨v_187, h0u377, rfl, rfl, H⟩
      apply Stg.next [(11, _)] rfl rfl
      refine Stg.go [5] [6] rfl rfl (QAll.cons (QOp.p hT rfl rfl rfl rfl rfl) QAll.nil) ?_
      refine EAll.cons ?_ EAll.nil
      replace H := H.self
      refine EOp.e rfl rfl rfl (EffX.mkS hT rfl rfl rfl rfl rfl rfl rfl rfl (by decide) H) ?_
      rintro _ _ ⟨v_188, h0u379, rfl, rfl, H⟩
      apply Stg.next [(15, _), (18, _)] rfl rfl
      refine Stg.go [9] [11] rfl rfl (QAll.cons (QOp.q rfl rfl (Quiet1.build (cs := [_, _, _, _, _, _, _, _]) hT rfl rfl rfl rfl rfl rfl) rfl rfl) QAll.nil) ?_
      refine EAll.cons ?_ EAll.nil
      refine EOp.e rfl rfl rfl (EffX.storeSP (i := 0) (qv := [(_, [_, _, _, _, _, _, _, _]), (_, [_, _, _, _, _, _, _, _])]) hT rfl rfl rfl rfl rfl rfl rfl rfl rfl rfl) ?_
      rintro _ _ rfl
      apply Stg.next [] rfl rfl
      refine Stg.fin [] rfl rfl QAll.nil ?_
      replace H := H.self
      exact AtE.then_n ((HK1 _ b_64 _ H).pickP (ts := [4, 2]) (is := [0, 1]) rfl rfl (by decide) rfl)
     refine EAll.cons ?_ EAll.nil
     replace H := H.self
     replace H := H.2
     refine EOp.e rfl rfl rfl (EffX.mkS hT rfl rfl rfl rfl rfl rfl rfl rfl (by decide) H) ?_
     rintro _ _ ⟨v_189, h0u381, rfl, rfl, H⟩
     apply Stg.next [(15, _)] rfl rfl
     refine Stg.go [0, 1] [2] rfl rfl (QAll.cons (QOp.p hT rfl rfl rfl rfl rfl) (QAll.cons (QOp.p hT rfl rfl rfl rfl rfl) QAll.nil)) ?_
     refine EAll.cons ?_ EAll.nil
     replace H := H.self
     refine EOp.e rfl rfl rfl (EffX.mkS hT rfl rfl rfl rfl rfl rfl rfl rfl (by decide) H) ?_
     rintro _ _ ⟨v_190, h0u383, rfl, rfl, H⟩
     apply Stg.next [(11, _), (18, _)] rfl rfl
     refine Stg.go [9] [11] rfl rfl (QAll.cons (QOp.q rfl rfl (Quiet1.build (cs := [_, _, _, _, _, _, _, _]) hT rfl rfl rfl rfl rfl rfl) rfl rfl) QAll.nil) ?_
     refine EAll.cons ?_ EAll.nil
     refine EOp.e rfl rfl rfl (EffX.storeSP (i := 0) (qv := [(_, [_, _, _, _, _, _, _, _]), (_, [_, _, _, _, _, _, _, _])]) hT rfl rfl rfl rfl rfl rfl rfl rfl rfl rfl) ?_
     rintro _ _ rfl
     apply Stg.next [] rfl rfl
     refine Stg.fin [] rfl rfl QAll.nil ?_
     replace H := H.self
     exact AtE.then_n ((HK1 _ b_64 _ H).pickP (ts := [4, 2]) (is := [0, 1]) rfl rfl (by decide) rfl)
    refine EAll.cons ?_ EAll.nil
    replace H := H.self
    replace H := H.2.2
    refine EOp.e rfl rfl rfl (EffX.mkS hT rfl rfl rfl rfl rfl rfl rfl rfl (by decide) H) ?_
    rintro _ _ ⟨v_191, h0u385, rfl, rfl, H⟩
    apply Stg.next [(15, _)] rfl rfl
    refine Stg.go [0, 1, 3] [2, 4] rfl rfl (QAll.cons (QOp.p hT rfl rfl rfl rfl rfl) (QAll.cons (QOp.p hT rfl rfl rfl rfl rfl) (QAll.cons (QOp.p hT rfl rfl rfl rfl rfl) QAll.nil))) ?_
    refine EAll.cons ?_ ?_
    ·
     replace H := H.self
     replace H := H.1
     refine EOp.e rfl rfl rfl (EffX.mkS hT rfl rfl rfl rfl rfl rfl rfl rfl (by decide) H) ?_
     rintro _ _ ⟨v_192, h0u387, rfl, rfl, H⟩
     apply Stg.next [(11, _)] rfl rfl
     refine Stg.go [3] [4] rfl rfl (QAll.cons (QOp.p hT rfl rfl rfl rfl rfl) QAll.nil) ?_
     refine EAll.cons ?_ EAll.nil
     replace H := H.self
     refine EOp.e rfl rfl rfl (EffX.mkS hT rfl rfl rfl rfl rfl rfl rfl rfl (by decide) H) ?_
     rintro _ _ ⟨v_193, h0u389, rfl, rfl, H⟩
     apply Stg.next [(13, _), (18, _)] rfl rfl
     refine Stg.go [9] [11] rfl rfl (QAll.cons (QOp.q rfl rfl (Quiet1.build (cs := [_, _, _, _, _, _, _, _]) hT rfl rfl rfl rfl rfl rfl) rfl rfl) QAll.nil) ?_
     refine EAll.cons ?_ EAll.nil
     refine EOp.e rfl rfl rfl (EffX.storeSP (i := 0) (qv := [(_, [_, _, _, _, _, _, _, _]), (_, [_, _, _, _, _, _, _, _])]) hT rfl rfl rfl rfl rfl rfl rfl rfl rfl rfl) ?_
     rintro _ _ rfl
     apply Stg.next [] rfl rfl
     refine Stg.fin [] rfl rfl QAll.nil ?_
     replace H := H.self
     exact AtE.then_n ((HK1 _ b_64 _ H).pickP (ts := [4, 2]) (is := [0, 1]) rfl rfl (by decide) rfl)
    refine EAll.cons ?_ EAll.nil
    replace H := H.self
    replace H := H.2
    refine EOp.e rfl rfl rfl (EffX.mkS hT rfl rfl rfl rfl rfl rfl rfl rfl (by decide) H) ?_
    rintro _ _ ⟨v_194, h0u391, rfl, rfl, H⟩
    apply Stg.next [(13, _)] rfl rfl
    refine Stg.go [0, 1] [2] rfl rfl (QAll.cons (QOp.p hT rfl rfl rfl rfl rfl) (QAll.cons (QOp.p hT rfl rfl rfl rfl rfl) QAll.nil)) ?_
    refine EAll.cons ?_ EAll.nil
    replace H := H.self
    refine EOp.e rfl rfl rfl (EffX.mkS hT rfl rfl rfl rfl rfl rfl rfl rfl (by decide) H) ?_
    rintro _ _ ⟨v_195, h0u393, rfl, rfl, H⟩
    apply Stg.next [(11, _), (18, _)] rfl rfl
    refine Stg.go [9] [11] rfl rfl (QAll.cons (QOp.q rfl rfl (Quiet1.build (cs := [_, _, _, _, _, _, _, _]) hT rfl rfl rfl rfl rfl rfl) rfl rfl) QAll.nil) ?_
    refine EAll.cons ?_ EAll.nil
    refine EOp.e rfl rfl rfl (EffX.storeSP (i := 0) (qv := [(_, [_, _, _, _, _, _, _, _]), (_, [_, _, _, _, _, _, _, _])]) hT rfl rfl rfl rfl rfl rfl rfl rfl rfl rfl) ?_
    rintro _ _ rfl
    apply Stg.next [] rfl rfl
    refine Stg.fin [] rfl rfl QAll.nil ?_
    replace H := H.self
    exact AtE.then_n ((HK1 _ b_64 _ H).pickP (ts := [4, 2]) (is := [0, 1]) rfl rfl (by decide) rfl)
   refine EAll.cons ?_ EAll.nil
   refine EOp.e rfl rfl rfl (EffX.allocP (cs := [_, _, _, _, _, _, _, _]) hT rfl rfl H) ?_
   rintro _ _ ⟨b_65, _, rfl, rfl, he65, H⟩
   apply Stg.next [(4, _)] rfl rfl
   refine Stg.go [0, 1, 3, 5, 7] [2, 4, 6, 8] rfl rfl (QAll.cons (QOp.p hT rfl rfl rfl rfl rfl) (QAll.cons (QOp.p hT rfl rfl rfl rfl rfl) (QAll.cons (QOp.p hT rfl rfl rfl rfl rfl) (QAll.cons (QOp.p hT rfl rfl rfl rfl rfl) (QAll.cons (QOp.p hT rfl rfl rfl rfl rfl) QAll.nil))))) ?_
   refine EAll.cons ?_ ?_
   ·
    replace H := H.self
    replace H := H.1
    refine EOp.e rfl rfl rfl (EffX.mkS hT rfl rfl rfl rfl rfl rfl rfl rfl (by decide) H) ?_
    rintro _ _ ⟨v_196, h0u395, rfl, rfl, H⟩
    apply Stg.next [(11, _)] rfl rfl
    refine Stg.go [3, 5, 7] [4, 6, 8] rfl rfl (QAll.cons (QOp.p hT rfl rfl rfl rfl rfl) (QAll.cons (QOp.p hT rfl rfl rfl rfl rfl) (QAll.cons (QOp.p hT rfl rfl rfl rfl rfl) QAll.nil))) ?_
    refine EAll.cons ?_ ?_
    ·
     replace H := H.self
     replace H := H.1
     refine EOp.e rfl rfl rfl (EffX.mkS hT rfl rfl rfl rfl rfl rfl rfl rfl (by decide) H) ?_
     rintro _ _ ⟨v_197, h0u397, rfl, rfl, H⟩
     apply Stg.next [(13, _)] rfl rfl
     refine Stg.go [5, 7] [6, 8] rfl rfl (QAll.cons (QOp.p hT rfl rfl rfl rfl rfl) (QAll.cons (QOp.p hT rfl rfl rfl rfl rfl) QAll.nil)) ?_
     refine EAll.cons ?_ ?_
     ·
      replace H := H.self
      replace H := H.1
      refine EOp.e rfl rfl rfl (EffX.mkS hT rfl rfl rfl rfl rfl rfl rfl rfl (by decide) H) ?_
      rintro _ _ ⟨v_198, h0u399, rfl, rfl, H⟩
      apply Stg.next [(15, _)] rfl rfl
      refine Stg.go [7] [8] rfl rfl (QAll.cons (QOp.p hT rfl rfl rfl rfl rfl) QAll.nil) ?_
      refine EAll.cons ?_ EAll.nil
      replace H := H.self
      refine EOp.e rfl rfl rfl (EffX.mkS hT rfl rfl rfl rfl rfl rfl rfl rfl (by decide) H) ?_
      rintro _ _ ⟨v_199, h0u401, rfl, rfl, H⟩
      apply Stg.next [(17, _), (18, _)] rfl rfl
      refine Stg.go [9] [11] rfl rfl (QAll.cons (QOp.q rfl rfl (Quiet1.build (cs := [_, _, _, _, _, _, _, _]) hT rfl rfl rfl rfl rfl rfl) rfl rfl) QAll.nil) ?_
      refine EAll.cons ?_ EAll.nil
      refine EOp.e rfl rfl rfl (EffX.storeSP (i := 0) (qv := [(_, [_, _, _, _, _, _, _, _]), (_, [_, _, _, _, _, _, _, _])]) hT rfl rfl rfl rfl rfl rfl rfl rfl rfl rfl) ?_
      rintro _ _ rfl
      apply Stg.next [] rfl rfl
      refine Stg.fin [] rfl rfl QAll.nil ?_
      replace H := H.self
      exact AtE.then_n ((HK1 _ b_65 _ H).pickP (ts := [4, 2]) (is := [0, 1]) rfl rfl (by decide) rfl)
     refine EAll.cons ?_ EAll.nil
     replace H := H.self
     replace H := H.2
     refine EOp.e rfl rfl rfl (EffX.mkS hT rfl rfl rfl rfl rfl rfl rfl rfl (by decide) H) ?_
     rintro _ _ ⟨v_200, h0u403, rfl, rfl, H⟩
     apply Stg.next [(17, _)] rfl rfl
     refine Stg.go [5] [6] rfl rfl (QAll.cons (QOp.p hT rfl rfl rfl rfl rfl) QAll.nil) ?_
     refine EAll.cons ?_ EAll.nil
     replace H := H.self
     refine EOp.e rfl rfl rfl (EffX.mkS hT rfl rfl rfl rfl rfl rfl rfl rfl (by decide) H) ?_
     rintro _ _ ⟨v_201, h0u405, rfl, rfl, H⟩
     apply Stg.next [(15, _), (18, _)] rfl rfl
     refine Stg.go [9] [11] rfl rfl (QAll.cons (QOp.q rfl rfl (Quiet1.build (cs := [_, _, _, _, _, _, _, _]) hT rfl rfl rfl rfl rfl rfl) rfl rfl) QAll.nil) ?_
     refine EAll.cons ?_ EAll.nil
     refine EOp.e rfl rfl rfl (EffX.storeSP (i := 0) (qv := [(_, [_, _, _, _, _, _, _, _]), (_, [_, _, _, _, _, _, _, _])]) hT rfl rfl rfl rfl rfl rfl rfl rfl rfl rfl) ?_
     rintro _ _ rfl
     apply Stg.next [] rfl rfl
     refine Stg.fin [] rfl rfl QAll.nil ?_
     replace H := H.self
     exact AtE.then_n ((HK1 _ b_65 _ H).pickP (ts := [4, 2]) (is := [0, 1]) rfl rfl (by decide) rfl)
    refine EAll.cons ?_ ?_
    ·
     replace H := H.self
     replace H := H.2.1
     refine EOp.e rfl rfl rfl (EffX.mkS hT rfl rfl rfl rfl rfl rfl rfl rfl (by decide) H) ?_
     rintro _ _ ⟨v_202, h0u407, rfl, rfl, H⟩
     apply Stg.next [(15, _)] rfl rfl
     refine Stg.go [3, 7] [4, 8] rfl rfl (QAll.cons (QOp.p hT rfl rfl rfl rfl rfl) (QAll.cons (QOp.p hT rfl rfl rfl rfl rfl) QAll.nil)) ?_
     refine EAll.cons ?_ ?_
     ·
      replace H := H.self
      replace H := H.1
      refine EOp.e rfl rfl rfl (EffX.mkS hT rfl rfl rfl rfl rfl rfl rfl rfl (by decide) H) ?_
      rintro _ _ ⟨v_203, h0u409, rfl, rfl, H⟩
      apply Stg.next [(13, _)] rfl rfl
      refine Stg.go [7] [8] rfl rfl (QAll.cons (QOp.p hT rfl rfl rfl rfl rfl) QAll.nil) ?_
      refine EAll.cons ?_ EAll.nil
      replace H := H.self
      refine EOp.e rfl rfl rfl (EffX.mkS hT rfl rfl rfl rfl rfl rfl rfl rfl (by decide) H) ?_
      rintro _ _ ⟨v_204, h0u411, rfl, rfl, H⟩
      apply Stg.next [(17, _), (18, _)] rfl rfl
      refine Stg.go [9] [11] rfl rfl (QAll.cons (QOp.q rfl rfl (Quiet1.build (cs := [_, _, _, _, _, _, _, _]) hT rfl rfl rfl rfl rfl rfl) rfl rfl) QAll.nil) ?_
      refine EAll.cons ?_ EAll.nil
      refine EOp.e rfl rfl rfl (EffX.storeSP (i := 0) (qv := [(_, [_, _, _, _, _, _, _, _]), (_, [_, _, _, _, _, _, _, _])]) hT rfl rfl rfl rfl rfl rfl rfl rfl rfl rfl) ?_
      rintro _ _ rfl
      apply Stg.next [] rfl rfl
      refine Stg.fin [] rfl rfl QAll.nil ?_
      replace H := H.self
      exact AtE.then_n ((HK1 _ b_65 _ H).pickP (ts := [4, 2]) (is := [0, 1]) rfl rfl (by decide) rfl)
     refine EAll.cons ?_ EAll.nil
     replace H := H.self
     replace H := H.2
     refine EOp.e rfl rfl rfl (EffX.mkS hT rfl rfl rfl rfl rfl rfl rfl rfl (by decide) H) ?_
     rintro _ _ ⟨v_205, h0u413, rfl, rfl, H⟩
     apply Stg.next [(17, _)] rfl rfl
     refine Stg.go [3] [4] rfl rfl (QAll.cons (QOp.p hT rfl rfl rfl rfl rfl) QAll.nil) ?_
     refine EAll.cons ?_ EAll.nil
     replace H := H.self
     refine EOp.e rfl rfl rfl (EffX.mkS hT rfl rfl rfl rfl rfl rfl rfl rfl (by decide) H) ?_
     rintro _ _ ⟨v_206, h0u415, rfl, rfl, H⟩
     apply Stg.next [(13, _), (18, _)] rfl rfl
     refine Stg.go [9] [11] rfl rfl (QAll.cons (QOp.q rfl rfl (Quiet1.build (cs := [_, _, _, _, _, _, _, _]) hT rfl rfl rfl rfl rfl rfl) rfl rfl) QAll.nil) ?_
     refine EAll.cons ?_ EAll.nil
     refine EOp.e rfl rfl rfl (EffX.storeSP (i := 0) (qv := [(_, [_, _, _, _, _, _, _, _]), (_, [_, _, _, _, _, _, _, _])]) hT rfl rfl rfl rfl rfl rfl rfl rfl rfl rfl) ?_
     rintro _ _ rfl
     apply Stg.next [] rfl rfl
     refine Stg.fin [] rfl rfl QAll.nil ?_
     replace H := H.self
     exact AtE.then_n ((HK1 _ b_65 _ H).pickP (ts := [4, 2]) (is := [0, 1]) rfl rfl (by decide) rfl)
    refine EAll.cons ?_ EAll.nil
    replace H := H.self
    replace H := H.2.2
    refine EOp.e rfl rfl rfl (EffX.mkS hT rfl rfl rfl rfl rfl rfl rfl rfl (by decide) H) ?_
    rintro _ _ ⟨v_207, h0u417, rfl, rfl, H⟩
    apply Stg.next [(17, _)] rfl rfl
    refine Stg.go [3, 5] [4, 6] rfl rfl (QAll.cons (QOp.p hT rfl rfl rfl rfl rfl) (QAll.cons (QOp.p hT rfl rfl rfl rfl rfl) QAll.nil)) ?_
    refine EAll.cons ?_ ?_
    ·
     replace H := H.self
     replace H := H.1
     refine EOp.e rfl rfl rfl (EffX.mkS hT rfl rfl rfl rfl rfl rfl rfl rfl (by decide) H) ?_
     rintro _ _ ⟨v_208, h0u419, rfl, rfl, H⟩
     apply Stg.next [(13, _)] rfl rfl
     refine Stg.go [5] [6] rfl rfl (QAll.cons (QOp.p hT rfl rfl rfl rfl rfl) QAll.nil) ?_
     refine EAll.cons ?_ EAll.nil
     replace H := H.self
     refine EOp.e rfl rfl rfl (EffX.mkS hT rfl rfl rfl rfl rfl rfl rfl rfl (by decide) H) ?_
     rintro _ _ ⟨v_209, h0u421, rfl, rfl, H⟩
     apply Stg.next [(15, _), (18, _)] rfl rfl
     refine Stg.go [9] [11] rfl rfl (QAll.cons (QOp.q rfl rfl (Quiet1.build (cs := [_, _, _, _, _, _, _, _]) hT rfl rfl rfl rfl rfl rfl) rfl rfl) QAll.nil) ?_
     refine EAll.cons ?_ EAll.nil
     refine EOp.e rfl rfl rfl (EffX.storeSP (i := 0) (qv := [(_, [_, _, _, _, _, _, _, _]), (_, [_, _, _, _, _, _, _, _])]) hT rfl rfl rfl rfl rfl rfl rfl rfl rfl rfl) ?_
     rintro _ _ rfl
     apply Stg.next [] rfl rfl
     refine Stg.fin [] rfl rfl QAll.nil ?_
     replace H := H.self
     exact AtE.then_n ((HK1 _ b_65 _ H).pickP (ts := [4, 2]) (is := [0, 1]) rfl rfl (by decide) rfl)
    refine EAll.cons ?_ EAll.nil
    replace H := H.self
    replace H := H.2
    refine EOp.e rfl rfl rfl (EffX.mkS hT rfl rfl rfl rfl rfl rfl rfl rfl (by decide) H) ?_
    rintro _ _ ⟨v_210, h0u423, rfl, rfl, H⟩
    apply Stg.next [(15, _)] rfl rfl
    refine Stg.go [3] [4] rfl rfl (QAll.cons (QOp.p hT rfl rfl rfl rfl rfl) QAll.nil) ?_
    refine EAll.cons ?_ EAll.nil
    replace H := H.self
    refine EOp.e rfl rfl rfl (EffX.mkS hT rfl rfl rfl rfl rfl rfl rfl rfl (by decide) H) ?_
    rintro _ _ ⟨v_211, h0u425, rfl, rfl, H⟩
    apply Stg.next [(13, _), (18, _)] rfl rfl
    refine Stg.go [9] [11] rfl rfl (QAll.cons (QOp.q rfl rfl (Quiet1.build (cs := [_, _, _, _, _, _, _, _]) hT rfl rfl rfl rfl rfl rfl) rfl rfl) QAll.nil) ?_
    refine EAll.cons ?_ EAll.nil
    refine EOp.e rfl rfl rfl (EffX.storeSP (i := 0) (qv := [(_, [_, _, _, _, _, _, _, _]), (_, [_, _, _, _, _, _, _, _])]) hT rfl rfl rfl rfl rfl rfl rfl rfl rfl rfl) ?_
    rintro _ _ rfl
    apply Stg.next [] rfl rfl
    refine Stg.fin [] rfl rfl QAll.nil ?_
    replace H := H.self
    exact AtE.then_n ((HK1 _ b_65 _ H).pickP (ts := [4, 2]) (is := [0, 1]) rfl rfl (by decide) rfl)
   refine EAll.cons ?_ ?_
   ·
    replace H := H.self
    replace H := H.2.1
    refine EOp.e rfl rfl rfl (EffX.mkS hT rfl rfl rfl rfl rfl rfl rfl rfl (by decide) H) ?_
    rintro _ _ ⟨v_212, h0u427, rfl, rfl, H⟩
    apply Stg.next [(13, _)] rfl rfl
    refine Stg.go [0, 1, 5, 7] [2, 6, 8] rfl rfl (QAll.cons (QOp.p hT rfl rfl rfl rfl rfl) (QAll.cons (QOp.p hT rfl rfl rfl rfl rfl) (QAll.cons (QOp.p hT rfl rfl rfl rfl rfl) (QAll.cons (QOp.p hT rfl rfl rfl rfl rfl) QAll.nil)))) ?_
    refine EAll.cons ?_ ?_
    ·
     replace H := H.self
     replace H := H.1
     refine EOp.e rfl rfl rfl (EffX.mkS hT rfl rfl rfl rfl rfl rfl rfl rfl (by decide) H) ?_
     rintro _ _ ⟨v_213, h0u429, rfl, rfl, H⟩
     apply Stg.next [(11, _)] rfl rfl
     refine Stg.go [5, 7] [6, 8] rfl rfl (QAll.cons (QOp.p hT rfl rfl rfl rfl rfl) (QAll.cons (QOp.p hT rfl rfl rfl rfl rfl) QAll.nil)) ?_
     refine EAll.cons ?_ ?_
     ·
      replace H := H.self
      replace H := H.1
      refine EOp.e rfl rfl rfl (EffX.mkS hT rfl rfl rfl rfl rfl rfl rfl rfl (by decide) H) ?_
      rintro _ _ ⟨v_214, h0u431, rfl, rfl, H⟩
      apply Stg.next [(15, _)] rfl rfl
      refine Stg.go [7] [8] rfl rfl (QAll.cons (QOp.p hT rfl rfl rfl rfl rfl) QAll.nil) ?_
      refine EAll.cons ?_ EAll.nil
      replace H := H.self
      refine EOp.e rfl rfl rfl (EffX.mkS hT rfl rfl rfl rfl rfl rfl rfl rfl (by decide) H) ?_
      rintro _ _ ⟨v_215, h0u433, rfl, rfl, H⟩
      apply Stg.next [(17, _), (18, _)] rfl rfl
      refine Stg.go [9] [11] rfl rfl (QAll.cons (QOp.q rfl rfl (Quiet1.build (cs := [_, _, _, _, _, _, _, _]) hT rfl rfl rfl rfl rfl rfl) rfl rfl) QAll.nil) ?_
      refine EAll.cons ?_ EAll.nil
      refine EOp.e rfl rfl rfl (EffX.storeSP (i := 0) (qv := [(_, [_, _, _, _, _, _, _, _]), (_, [_, _, _, _, _, _, _, _])]) hT rfl rfl rfl rfl rfl rfl rfl rfl rfl rfl) ?_
      rintro _ _ rfl
      apply Stg.next [] rfl rfl
      refine Stg.fin [] rfl rfl QAll.nil ?_
      replace H := H.self
      exact AtE.then_n ((HK1 _ b_65 _ H).pickP (ts := [4, 2]) (is := [0, 1]) rfl rfl (by decide) rfl)
     refine EAll.cons ?_ EAll.nil
     replace H := H.self
     replace H := H.2
     refine EOp.e rfl rfl rfl (EffX.mkS hT rfl rfl rfl rfl rfl rfl rfl rfl (by decide) H) ?_
     rintro _ _ ⟨v_216, h0u435, rfl, rfl, H⟩
     apply Stg.next [(17, _)] rfl rfl
     refine Stg.go [5] [6] rfl rfl (QAll.cons (QOp.p hT rfl rfl rfl rfl rfl) QAll.nil) ?_
     refine EAll.cons ?_ EAll.nil
     replace H := H.self
     refine EOp.e rfl rfl rfl (EffX.mkS hT rfl rfl rfl rfl rfl rfl rfl rfl (by decide) H) ?_
     rintro _ _ ⟨v_217, h0u437, rfl, rfl, H⟩
     apply Stg.next [(15, _), (18, _)] rfl rfl
     refine Stg.go [9] [11] rfl rfl (QAll.cons (QOp.q rfl rfl (Quiet1.build (cs := [_, _, _, _, _, _, _, _]) hT rfl rfl rfl rfl rfl rfl) rfl rfl) QAll.nil) ?_
     refine EAll.cons ?_ EAll.nil
     refine EOp.e rfl rfl rfl (EffX.storeSP (i := 0) (qv := [(_, [_, _, _, _, _, _, _, _]), (_, [_, _, _, _, _, _, _, _])]) hT rfl rfl rfl rfl rfl rfl rfl rfl rfl rfl) ?_
     rintro _ _ rfl
     apply Stg.next [] rfl rfl
     refine Stg.fin [] rfl rfl QAll.nil ?_
     replace H := H.self
     exact AtE.then_n ((HK1 _ b_65 _ H).pickP (ts := [4, 2]) (is := [0, 1]) rfl rfl (by decide) rfl)
    refine EAll.cons ?_ ?_
    ·
     replace H := H.self
     replace H := H.2.1
     refine EOp.e rfl rfl rfl (EffX.mkS hT rfl rfl rfl rfl rfl rfl rfl rfl (by decide) H) ?_
     rintro _ _ ⟨v_218, h0u439, rfl, rfl, H⟩
     apply Stg.next [(15, _)] rfl rfl
     refine Stg.go [0, 1, 7] [2, 8] rfl rfl (QAll.cons (QOp.p hT rfl rfl rfl rfl rfl) (QAll.cons (QOp.p hT rfl rfl rfl rfl rfl) (QAll.cons (QOp.p hT rfl rfl rfl rfl rfl) QAll.nil))) ?_
     refine EAll.cons ?_ ?_
     ·
      replace H := H.self
      replace H := H.1
      refine EOp.e rfl rfl rfl (EffX.mkS hT rfl rfl rfl rfl rfl rfl rfl rfl (by decide) H) ?_
      rintro _ _ ⟨v_219, h0u441, rfl, rfl, H⟩
      apply Stg.next [(11, _)] rfl rfl
      refine Stg.go [7] [8] rfl rfl (QAll.cons (QOp.p hT rfl rfl rfl rfl rfl) QAll.nil) ?_
      refine EAll.cons ?_ EAll.nil
      replace H := H.self
      refine EOp.e rfl rfl rfl (EffX.mkS hT rfl rfl rfl rfl rfl rfl rfl rfl (by decide) H) ?_
      rintro _ _ ⟨v_220, h0u443, rfl, rfl, H⟩
      apply Stg.next [(17, _), (18, _)] rfl rfl
      refine Stg.go [9] [11] rfl rfl (QAll.cons (QOp.q rfl rfl (Quiet1.build (cs := [_, _, _, _, _, _, _, _]) hT rfl rfl rfl rfl rfl rfl) rfl rfl) QAll.nil) ?_
      refine EAll.cons ?_ EAll.nil
      refine EOp.e rfl rfl rfl (EffX.storeSP (i := 0) (qv := [(_, [_, _, _, _, _, _, _, _]), (_, [_, _, _, _, _, _, _, _])]) hT rfl rfl rfl rfl rfl rfl rfl rfl rfl rfl) ?_
      rintro _ _ rfl
      apply Stg.next [] rfl rfl
      refine Stg.fin [] rfl rfl QAll.nil ?_
      replace H := H.self
      exact AtE.then_n ((HK1 _ b_65 _ H).pickP (ts := [4, 2]) (is := [0, 1]) rfl rfl (by decide) rfl)
     refine EAll.cons ?_ EAll.nil
     replace H := H.self
     replace H := H.2
     refine EOp.e rfl rfl rfl (EffX.mkS hT rfl rfl rfl rfl rfl rfl rfl rfl (by decide) H) ?_
     rintro _ _ ⟨v_221, h0u445, rfl, rfl, H⟩
     apply Stg.next [(17, _)] rfl rfl
     refine Stg.go [0, 1] [2] rfl rfl (QAll.cons (QOp.p hT rfl rfl rfl rfl rfl) (QAll.cons (QOp.p hT rfl rfl rfl rfl rfl) QAll.nil)) ?_
     refine EAll.cons ?_ EAll.nil
     replace H := H.self
     refine EOp.e rfl rfl rfl (EffX.mkS hT rfl rfl rfl rfl rfl rfl rfl rfl (by decide) H) ?_
     rintro _ _ ⟨v_222, h0u447, rfl, rfl, H⟩
     apply Stg.next [(11, _), (18, _)] rfl rfl
     refine Stg.go [9] [11] rfl rfl (QAll.cons (QOp.q rfl rfl (Quiet1.build (cs := [_, _, _, _, _, _, _, _]) hT rfl rfl rfl rfl rfl rfl) rfl rfl) QAll.nil) ?_
     refine EAll.cons ?_ EAll.nil
     refine EOp.e rfl rfl rfl (EffX.storeSP (i := 0) (qv := [(_, [_, _, _, _, _, _, _, _]), (_, [_, _, _, _, _, _, _, _])]) hT rfl rfl rfl rfl rfl rfl rfl rfl rfl rfl) ?_
     rintro _ _ rfl
     apply Stg.next [] rfl rfl
     refine Stg.fin [] rfl rfl QAll.nil ?_
     replace H := H.self
     exact AtE.then_n ((HK1 _ b_65 _ H).pickP (ts := [4, 2]) (is := [0, 1]) rfl rfl (by decide) rfl)
    refine EAll.cons ?_ EAll.nil
    replace H := H.self
    replace H := H.2.2
    refine EOp.e rfl rfl rfl (EffX.mkS hT rfl rfl rfl rfl rfl rfl rfl rfl (by decide) H) ?_
    rintro _ _ ⟨v_223, h0u449, rfl, rfl, H⟩
    apply Stg.next [(17, _)] rfl rfl
    refine Stg.go [0, 1, 5] [2, 6] rfl rfl (QAll.cons (QOp.p hT rfl rfl rfl rfl rfl) (QAll.cons (QOp.p hT rfl rfl rfl rfl rfl) (QAll.cons (QOp.p hT rfl rfl rfl rfl rfl) QAll.nil))) ?_
    refine EAll.cons ?_ ?_
    ·
     replace H := H.self
     replace H := H.1
     refine EOp.e rfl rfl rfl (EffX.mkS hT rfl rfl rfl rfl rfl rfl rfl rfl (by decide) H) ?_
     rintro _ _ ⟨v_224, h0u451, rfl, rfl, H⟩
     apply Stg.next [(11, _)] rfl rfl
     refine Stg.go [5] [6] rfl rfl (QAll.cons (QOp.p hT rfl rfl rfl rfl rfl) QAll.nil) ?_
     refine EAll.cons ?_ EAll.nil
     replace H := H.self
     refine EOp.e rfl rfl rfl (EffX.mkS hT rfl rfl rfl rfl rfl rfl rfl rfl (by decide) H) ?_
     rintro _ _ ⟨v_225, h0u453, rfl, rfl, H⟩
     apply Stg.next [(15, _), (18, _)] rfl rfl
     refine Stg.go [9] [11] rfl rfl (QAll.cons (QOp.q rfl rfl (Quiet1.build (cs := [_, _, _, _, _, _, _, _]) hT rfl rfl rfl rfl rfl rfl) rfl rfl) QAll.nil) ?_
     refine EAll.cons ?_ EAll.nil
     refine EOp.e rfl rfl rfl (EffX.storeSP (i := 0) (qv := [(_, [_, _, _, _, _, _, _, _]), (_, [_, _, _, _, _, _, _, _])]) hT rfl rfl rfl rfl rfl rfl rfl rfl rfl rfl) ?_
     rintro _ _ rfl
     apply Stg.next [] rfl rfl
     refine Stg.fin [] rfl rfl QAll.nil ?_
     replace H := H.self
     exact AtE.then_n ((HK1 _ b_65 _ H).pickP (ts := [4, 2]) (is := [0, 1]) rfl rfl (by decide) rfl)
    refine EAll.cons ?_ EAll.nil
    replace H := H.self
    replace H := H.2
    refine EOp.e rfl rfl rfl (EffX.mkS hT rfl rfl rfl rfl rfl rfl rfl rfl (by decide) H) ?_
    rintro _ _ ⟨v_226, h0u455, rfl, rfl, H⟩
    apply Stg.next [(15, _)] rfl rfl
    refine Stg.go [0, 1] [2] rfl rfl (QAll.cons (QOp.p hT rfl rfl rfl rfl rfl) (QAll.cons (QOp.p hT rfl rfl rfl rfl rfl) QAll.nil)) ?_
    refine EAll.cons ?_ EAll.nil
    replace H := H.self
    refine EOp.e rfl rfl rfl (EffX.mkS hT rfl rfl rfl rfl rfl rfl rfl rfl (by decide) H) ?_
    rintro _ _ ⟨v_227, h0u457, rfl, rfl, H⟩
    apply Stg.next [(11, _), (18, _)] rfl rfl
    refine Stg.go [9] [11] rfl rfl (QAll.cons (QOp.q rfl rfl (Quiet1.build (cs := [_, _, _, _, _, _, _, _]) hT rfl rfl rfl rfl rfl rfl) rfl rfl) QAll.nil) ?_
    refine EAll.cons ?_ EAll.nil
    refine EOp.e rfl rfl rfl (EffX.storeSP (i := 0) (qv := [(_, [_, _, _, _, _, _, _, _]), (_, [_, _, _, _, _, _, _, _])]) hT rfl rfl rfl rfl rfl rfl rfl rfl rfl rfl) ?_
    rintro _ _ rfl
    apply Stg.next [] rfl rfl
    refine Stg.fin [] rfl rfl QAll.nil ?_
    replace H := H.self
    exact AtE.then_n ((HK1 _ b_65 _ H).pickP (ts := [4, 2]) (is := [0, 1]) rfl rfl (by decide) rfl)
   refine EAll.cons ?_ ?_
   ·
    replace H := H.self
    replace H := H.2.2.1
    refine EOp.e rfl rfl rfl (EffX.mkS hT rfl rfl rfl rfl rfl rfl rfl rfl (by decide) H) ?_
    rintro _ _ ⟨v_228, h0u459, rfl, rfl, H⟩
    apply Stg.next [(15, _)] rfl rfl
    refine Stg.go [0, 1, 3, 7] [2, 4, 8] rfl rfl (QAll.cons (QOp.p hT rfl rfl rfl rfl rfl) (QAll.cons (QOp.p hT rfl rfl rfl rfl rfl) (QAll.cons (QOp.p hT rfl rfl rfl rfl rfl) (QAll.cons (QOp.p hT rfl rfl rfl rfl rfl) QAll.nil)))) ?_
    refine EAll.cons ?_ ?_
    ·
     replace H := H.self
     replace H := H.1
     refine EOp.e rfl rfl rfl (EffX.mkS hT rfl rfl rfl rfl rfl rfl rfl rfl (by decide) H) ?_
     rintro _ _ ⟨v_229, h0u461, rfl, rfl, H⟩
     apply Stg.next [(11, _)] rfl rfl
     refine Stg.go [3, 7] [4, 8] rfl rfl (QAll.cons (QOp.p hT rfl rfl rfl rfl rfl) (QAll.cons (QOp.p hT rfl rfl rfl rfl rfl) QAll.nil)) ?_
     refine EAll.cons ?_ ?_
     ·
      replace H := H.self
      replace H := H.1
      refine EOp.e rfl rfl rfl (EffX.mkS hT rfl rfl rfl rfl rfl rfl rfl rfl (by decide) H) ?_
      rintro _ _ ⟨v_230, h0u463, rfl, rfl, H⟩
      apply Stg.next [(13, _)] rfl rfl
      refine Stg.go [7] [8] rfl rfl (QAll.cons (QOp.p hT rfl rfl rfl rfl rfl) QAll.nil) ?_
      refine EAll.cons ?_ EAll.nil
      replace H := H.self
      refine EOp.e rfl rfl rfl (EffX.mkS hT rfl rfl rfl rfl rfl rfl rfl rfl (by decide) H) ?_
      rintro _ _ ⟨v_231, h0u465, rfl, rfl, H⟩
      apply Stg.next [(17, _), (18, _)] rfl rfl
      refine Stg.go [9] [11] rfl rfl (QAll.cons (QOp.q rfl rfl (Quiet1.build (cs := [_, _, _, _, _, _, _, _]) hT rfl rfl rfl rfl rfl rfl) rfl rfl) QAll.nil) ?_
      refine EAll.cons ?_ EAll.nil
      refine EOp.e rfl rfl rfl (EffX.storeSP (i := 0) (qv := [(_, [_, _, _, _, _, _, _, _]), (_, [_, _, _, _, _, _, _, _])]) hT rfl rfl rfl rfl rfl rfl rfl rfl rfl rfl) ?_
      rintro _ _ rfl
      apply Stg.next [] rfl rfl
      refine Stg.fin [] rfl rfl QAll.nil ?_
      replace H := H.self
      exact AtE.then_n ((HK1 _ b_65 _ H).pickP (ts := [4, 2]) (is := [0, 1]) rfl rfl (by decide) rfl)
     refine EAll.cons ?_ EAll.nil
     replace H := H.self
     replace H := H.2
     refine EOp.e rfl rfl rfl (EffX.mkS hT rfl rfl rfl rfl rfl rfl rfl rfl (by decide) H) ?_
     rintro _ _ ⟨v_232, h0u467, rfl, rfl, H⟩
     apply Stg.next [(17, _)] rfl rfl
     refine Stg.go [3] [4] rfl rfl (QAll.cons (QOp.p hT rfl rfl rfl rfl rfl) QAll.nil) ?_
     refine EAll.cons ?_ EAll.nil
     replace H := H.self
     refine EOp.e rfl rfl rfl (EffX.mkS hT rfl rfl rfl rfl rfl rfl rfl rfl (by decide) H) ?_
     rintro _ _ ⟨v_233, h0u469, rfl, rfl, H⟩
     apply Stg.next [(13, _), (18, _)] rfl rfl
     refine Stg.go [9] [11] rfl rfl (QAll.cons (QOp.q rfl rfl (Quiet1.build (cs := [_, _, _, _, _, _, _, _]) hT rfl rfl rfl rfl rfl rfl) rfl rfl) QAll.nil) ?_
     refine EAll.cons ?_ EAll.nil
     refine EOp.e rfl rfl rfl (EffX.storeSP (i := 0) (qv := [(_, [_, _, _, _, _, _, _, _]), (_, [_, _, _, _, _, _, _, _])]) hT rfl rfl rfl rfl rfl rfl rfl rfl rfl rfl) ?_
     rintro _ _ rfl
     apply Stg.next [] rfl rfl
     refine Stg.fin [] rfl rfl QAll.nil ?_
     replace H := H.self
     exact AtE.then_n ((HK1 _ b_65 _ H).pickP (ts := [4, 2]) (is := [0, 1]) rfl rfl (by decide) rfl)
    refine EAll.cons ?_ ?_
    ·
     replace H := H.self
     replace H := H.2.1
     refine EOp.e rfl rfl rfl (EffX.mkS hT rfl rfl rfl rfl rfl rfl rfl rfl (by decide) H) ?_
     rintro _ _ ⟨v_234, h0u471, rfl, rfl, H⟩
     apply Stg.next [(13, _)] rfl rfl
     refine Stg.go [0, 1, 7] [2, 8] rfl rfl (QAll.cons (QOp.p hT rfl rfl rfl rfl rfl) (QAll.cons (QOp.p hT rfl rfl rfl rfl rfl) (QAll.cons (QOp.p hT rfl rfl rfl rfl rfl) QAll.nil))) ?_
     refine EAll.cons ?_ ?_
     ·
      replace H := H.self
      replace H := H.1
      refine EOp.e rfl rfl rfl (EffX.mkS hT rfl rfl rfl rfl rfl rfl rfl rfl (by decide) H) ?_
      rintro _ _ ⟨v_235, h0u473, rfl, rfl, H⟩
      apply Stg.next [(11, _)] rfl rfl
      refine Stg.go [7] [8] rfl rfl (QAll.cons (QOp.p hT rfl rfl rfl rfl rfl) QAll.nil) ?_
      refine EAll.cons ?_ EAll.nil
      replace H := H.self
      refine EOp.e rfl rfl rfl (EffX.mkS hT rfl rfl rfl rfl rfl rfl rfl rfl (by decide) H) ?_
      rintro _ _ ⟨v_236, h0u475, rfl, rfl, H⟩
      apply Stg.next [(17, _), (18, _)] rfl rfl
      refine Stg.go [9] [11] rfl rfl (QAll.cons (QOp.q rfl rfl (Quiet1.build (cs := [_, _, _, _, _, _, _, _]) hT rfl rfl rfl rfl rfl rfl) rfl rfl) QAll.nil) ?_
      refine EAll.cons ?_ EAll.nil
      refine EOp.e rfl rfl rfl (EffX.storeSP (i := 0) (qv := [(_, [_, _, _, _, _, _, _, _]), (_, [_, _, _, _, _, _, _, _])]) hT rfl rfl rfl rfl rfl rfl rfl rfl rfl rfl) ?_
      rintro _ _ rfl
      apply Stg.next [] rfl rfl
      refine Stg.fin [] rfl rfl QAll.nil ?_
      replace H := H.self
      exact AtE.then_n ((HK1 _ b_65 _ H).pickP (ts := [4, 2]) (is := [0, 1]) rfl rfl (by decide) rfl)
     refine EAll.cons ?_ EAll.nil
     replace H := H.self
     replace H := H.2
     refine EOp.e rfl rfl rfl (EffX.mkS hT rfl rfl rfl rfl rfl rfl rfl rfl (by decide) H) ?_
     rintro _ _ ⟨v_237, h0u477, rfl, rfl, H⟩
     apply Stg.next [(17, _)] rfl rfl
     refine Stg.go [0, 1] [2] rfl rfl (QAll.cons (QOp.p hT rfl rfl rfl rfl rfl) (QAll.cons (QOp.p hT rfl rfl rfl rfl rfl) QAll.nil)) ?_
     refine EAll.cons ?_ EAll.nil
     replace H := H.self
     refine EOp.e rfl rfl rfl (EffX.mkS hT rfl rfl rfl rfl rfl rfl rfl rfl (by decide) H) ?_
     rintro _ _ ⟨v_238, h0u479, rfl, rfl, H⟩
     apply Stg.next [(11, _), (18, _)] rfl rfl
     refine Stg.go [9] [11] rfl rfl (QAll.cons (QOp.q rfl rfl (Quiet1.build (cs := [_, _, _, _, _, _, _, _]) hT rfl rfl rfl rfl rfl rfl) rfl rfl) QAll.nil) ?_
     refine EAll.cons ?_ EAll.nil
     refine EOp.e rfl rfl rfl (EffX.storeSP (i := 0) (qv := [(_, [_, _, _, _, _, _, _, _]), (_, [_, _, _, _, _, _, _, _])]) hT rfl rfl rfl rfl rfl rfl rfl rfl rfl rfl) ?_
     rintro _ _ rfl
     apply Stg.next [] rfl rfl
     refine Stg.fin [] rfl rfl QAll.nil ?_
     replace H := H.self
     exact AtE.then_n ((HK1 _ b_65 _ H).pickP (ts := [4, 2]) (is := [0, 1]) rfl rfl (by decide) rfl)
    refine EAll.cons ?_ EAll.nil
    replace H := H.self
    replace H := H.2.2
    refine EOp.e rfl rfl rfl (EffX.mkS hT rfl rfl rfl rfl rfl rfl rfl rfl (by decide) H) ?_
    rintro _ _ ⟨v_239, h0u481, rfl, rfl, H⟩
    apply Stg.next [(17, _)] rfl rfl
    refine Stg.go [0, 1, 3] [2, 4] rfl rfl (QAll.cons (QOp.p hT rfl rfl rfl rfl rfl) (QAll.cons (QOp.p hT rfl rfl rfl rfl rfl) (QAll.cons (QOp.p hT rfl rfl rfl rfl rfl) QAll.nil))) ?_
    refine EAll.cons ?_ ?_
    ·
     replace H := H.self
     replace H := H.1
     refine EOp.e rfl rfl rfl (EffX.mkS hT rfl rfl rfl rfl rfl rfl rfl rfl (by decide) H) ?_
     rintro _ _ ⟨v_240, h0u483, rfl, rfl, H⟩
     apply Stg.next [(11, _)] rfl rfl
     refine Stg.go [3] [4] rfl rfl (QAll.cons (QOp.p hT rfl rfl rfl rfl rfl) QAll.nil) ?_
     refine EAll.cons ?_ EAll.nil
     replace H := H.self
     refine EOp.e rfl rfl rfl (EffX.mkS hT rfl rfl rfl rfl rfl rfl rfl rfl (by decide) H) ?_
     rintro _ _ ⟨v_241, h0u485, rfl, rfl, H⟩
     apply Stg.next [(13, _), (18, _)] rfl rfl
     refine Stg.go [9] [11] rfl rfl (QAll.cons (QOp.q rfl rfl (Quiet1.build (cs := [_, _, _, _, _, _, _, _]) hT rfl rfl rfl rfl rfl rfl) rfl rfl) QAll.nil) ?_
     refine EAll.cons ?_ EAll.nil
     refine EOp.e rfl rfl rfl (EffX.storeSP (i := 0) (qv := [(_, [_, _, _, _, _, _, _, _]), (_, [_, _, _, _, _, _, _, _])]) hT rfl rfl rfl rfl rfl rfl rfl rfl rfl rfl) ?_
     rintro _ _ rfl
     apply Stg.next [] rfl rfl
     refine Stg.fin [] rfl rfl QAll.nil ?_
     replace H := H.self
     exact AtE.then_n ((HK1 _ b_65 _ H).pickP (ts := [4, 2]) (is := [0, 1]) rfl rfl (by decide) rfl)
    refine EAll.cons ?_ EAll.nil
    replace H := H.self
    replace H := H.2
    refine EOp.e rfl rfl rfl (EffX.mkS hT rfl rfl rfl rfl rfl rfl rfl rfl (by decide) H) ?_
    rintro _ _ ⟨v_242, h0u487, rfl, rfl, H⟩
    apply Stg.next [(13, _)] rfl rfl
    refine Stg.go [0, 1] [2] rfl rfl (QAll.cons (QOp.p hT rfl rfl rfl rfl rfl) (QAll.cons (QOp.p hT rfl rfl rfl rfl rfl) QAll.nil)) ?_
    refine EAll.cons ?_ EAll.nil
    replace H := H.self
    refine EOp.e rfl rfl rfl (EffX.mkS hT rfl rfl rfl rfl rfl rfl rfl rfl (by decide) H) ?_
    rintro _ _ ⟨v_243, h0u489, rfl, rfl, H⟩
    apply Stg.next [(11, _), (18, _)] rfl rfl
    refine Stg.go [9] [11] rfl rfl (QAll.cons (QOp.q rfl rfl (Quiet1.build (cs := [_, _, _, _, _, _, _, _]) hT rfl rfl rfl rfl rfl rfl) rfl rfl) QAll.nil) ?_
    refine EAll.cons ?_ EAll.nil
    refine EOp.e rfl rfl rfl (EffX.storeSP (i := 0) (qv := [(_, [_, _, _, _, _, _, _, _]), (_, [_, _, _, _, _, _, _, _])]) hT rfl rfl rfl rfl rfl rfl rfl rfl rfl rfl) ?_
    rintro _ _ rfl
    apply Stg.next [] rfl rfl
    refine Stg.fin [] rfl rfl QAll.nil ?_
    replace H := H.self
    exact AtE.then_n ((HK1 _ b_65 _ H).pickP (ts := [4, 2]) (is := [0, 1]) rfl rfl (by decide) rfl)
   refine EAll.cons ?_ EAll.nil
   replace H := H.self
   replace H := H.2.2.2
   refine EOp.e rfl rfl rfl (EffX.mkS hT rfl rfl rfl rfl rfl rfl rfl rfl (by decide) H) ?_
   rintro _ _ ⟨v_244, h0u491, rfl, rfl, H⟩
   apply Stg.next [(17, _)] rfl rfl
   refine Stg.go [0, 1, 3, 5] [2, 4, 6] rfl rfl (QAll.cons (QOp.p hT rfl rfl rfl rfl rfl) (QAll.cons (QOp.p hT rfl rfl rfl rfl rfl) (QAll.cons (QOp.p hT rfl rfl rfl rfl rfl) (QAll.cons (QOp.p hT rfl rfl rfl rfl rfl) QAll.nil)))) ?_
   refine EAll.cons ?_ ?_
   ·
    replace H := H.self
    replace H := H.1
    refine EOp.e rfl rfl rfl (EffX.mkS hT rfl rfl rfl rfl rfl rfl rfl rfl (by decide) H) ?_
    rintro _ _ ⟨v_245, h0u493, rfl, rfl, H⟩
    apply Stg.next [(11, _)] rfl rfl
    refine Stg.go [3, 5] [4, 6] rfl rfl (QAll.cons (QOp.p hT rfl rfl rfl rfl rfl) (QAll.cons (QOp.p hT rfl rfl rfl rfl rfl) QAll.nil)) ?_
    refine EAll.cons ?_ ?_
    ·
     replace H := H.self
     replace H := H.1
     refine EOp.e rfl rfl rfl (EffX.mkS hT rfl rfl rfl rfl rfl rfl rfl rfl (by decide) H) ?_
     rintro _ _ ⟨v_246, h0u495, rfl, rfl, H⟩
     apply Stg.next [(13, _)] rfl rfl
     refine Stg.go [5] [6] rfl rfl (QAll.cons (QOp.p hT rfl rfl rfl rfl rfl) QAll.nil) ?_
     refine EAll.cons ?_ EAll.nil
     replace H := H.self
     refine EOp.e rfl rfl rfl (EffX.mkS hT rfl rfl rfl rfl rfl rfl rfl rfl (by decide) H) ?_
     rintro _ _ ⟨v_247, h0u497, rfl, rfl, H⟩
     apply Stg.next [(15, _), (18, _)] rfl rfl
     refine Stg.go [9] [11] rfl rfl (QAll.cons (QOp.q rfl rfl (Quiet1.build (cs := [_, _, _, _, _, _, _, _]) hT rfl rfl rfl rfl rfl rfl) rfl rfl) QAll.nil) ?_
     refine EAll.cons ?_ EAll.nil
     refine EOp.e rfl rfl rfl (EffX.storeSP (i := 0) (qv := [(_, [_, _, _, _, _, _, _, _]), (_, [_, _, _, _, _, _, _, _])]) hT rfl rfl rfl rfl rfl rfl rfl rfl rfl rfl) ?_
     rintro _ _ rfl
     apply Stg.next [] rfl rfl
     refine Stg.fin [] rfl rfl QAll.nil ?_
     replace H := H.self
     exact AtE.then_n ((HK1 _ b_65 _ H).pickP (ts := [4, 2]) (is := [0, 1]) rfl rfl (by decide) rfl)
    refine EAll.cons ?_ EAll.nil
    replace H := H.self
    replace H := H.2
    refine EOp.e rfl rfl rfl (EffX.mkS hT rfl rfl rfl rfl rfl rfl rfl rfl (by decide) H) ?_
    rintro _ _ ⟨v_248, h0u499, rfl, rfl, H⟩
    apply Stg.next [(15, _)] rfl rfl
    refine Stg.go [3] [4] rfl rfl (QAll.cons (QOp.p hT rfl rfl rfl rfl rfl) QAll.nil) ?_
    refine EAll.cons ?_ EAll.nil
    replace H := H.self
    refine EOp.e rfl rfl rfl (EffX.mkS hT rfl rfl rfl rfl rfl rfl rfl rfl (by decide) H) ?_
    rintro _ _ ⟨v_249, h0u501, rfl, rfl, H⟩
    apply Stg.next [(13, _), (18, _)] rfl rfl
    refine Stg.go [9] [11] rfl rfl (QAll.cons (QOp.q rfl rfl (Quiet1.build (cs := [_, _, _, _, _, _, _, _]) hT rfl rfl rfl rfl rfl rfl) rfl rfl) QAll.nil) ?_
    refine EAll.cons ?_ EAll.nil
    refine EOp.e rfl rfl rfl (EffX.storeSP (i := 0) (qv := [(_, [_, _, _, _, _, _, _, _]), (_, [_, _, _, _, _, _, _, _])]) hT rfl rfl rfl rfl rfl rfl rfl rfl rfl rfl) ?_
    rintro _ _ rfl
    apply Stg.next [] rfl rfl
    refine Stg.fin [] rfl rfl QAll.nil ?_
    replace H := H.self
    exact AtE.then_n ((HK1 _ b_65 _ H).pickP (ts := [4, 2]) (is := [0, 1]) rfl rfl (by decide) rfl)
   refine EAll.cons ?_ ?_
   ·
    replace H := H.self
    replace H := H.2.1
    refine EOp.e rfl rfl rfl (EffX.mkS hT rfl rfl rfl rfl rfl rfl rfl rfl (by decide) H) ?_
    rintro _ _ ⟨v_250, h0u503, rfl, rfl, H⟩
    apply Stg.next [(13, _)] rfl rfl
    refine Stg.go [0, 1, 5] [2, 6] rfl rfl (QAll.cons (QOp.p hT rfl rfl rfl rfl rfl) (QAll.cons (QOp.p hT rfl rfl rfl rfl rfl) (QAll.cons (QOp.p hT rfl rfl rfl rfl rfl) QAll.nil))) ?_
    refine EAll.cons ?_ ?_
    ·
     replace H := H.self
     replace H := H.1
     refine EOp.e rfl rfl rfl (EffX.mkS hT rfl rfl rfl rfl rfl rfl rfl rfl (by decide) H) ?_
     rintro _ _ ⟨v_251, h0u505, rfl, rfl, H⟩
     apply Stg.next [(11, _)] rfl rfl
     refine Stg.go [5] [6] rfl rfl (QAll.cons (QOp.p hT rfl rfl rfl rfl rfl) QAll.nil) ?_
     refine EAll.cons ?_ EAll.nil
     replace H := H.self
     refine EOp.e rfl rfl rfl (EffX.mkS hT rfl rfl rfl rfl rfl rfl rfl rfl (by decide) H) ?_
     rintro _ _ ⟨v_252, h0u507, rfl, rfl, H⟩
     apply Stg.next [(15, _), (18, _)] rfl rfl
     refine Stg.go [9] [11] rfl rfl (QAll.cons (QOp.q rfl rfl (Quiet1.build (cs := [_, _, _, _, _, _, _, _]) hT rfl rfl rfl rfl rfl rfl) rfl rfl) QAll.nil) ?_
     refine EAll.cons ?_ EAll.nil
     refine EOp.e rfl rfl rfl (EffX.storeSP (i := 0) (qv := [(_, [_, _, _, _, _, _, _, _]), (_, [_, _, _, _, _, _, _, _])]) hT rfl rfl rfl rfl rfl rfl rfl rfl rfl rfl) ?_
     rintro _ _ rfl
     apply Stg.next [] rfl rfl
     refine Stg.fin [] rfl rfl QAll.nil ?_
     replace H := H.self
     exact AtE.then_n ((HK1 _ b_65 _ H).pickP (ts := [4, 2]) (is := [0, 1]) rfl rfl (by decide) rfl)
    refine EAll.cons ?_ EAll.nil
    replace H := H.self
    replace H := H.2
    refine EOp.e rfl rfl rfl (EffX.mkS hT rfl rfl rfl rfl rfl rfl rfl rfl (by decide) H) ?_
    rintro _ _ ⟨v_253, h0u509, rfl, rfl, H⟩
    apply Stg.next [(15, _)] rfl rfl
    refine Stg.go [0, 1] [2] rfl rfl (QAll.cons (QOp.p hT rfl rfl rfl rfl rfl) (QAll.cons (QOp.p hT rfl rfl rfl rfl rfl) QAll.nil)) ?_
    refine EAll.cons ?_ EAll.nil
    replace H := H.self
    refine EOp.e rfl rfl rfl (EffX.mkS hT rfl rfl rfl rfl rfl rfl rfl rfl (by decide) H) ?_
    rintro _ _ ⟨v_254, h0u511, rfl, rfl, H⟩
    apply Stg.next [(11, _), (18, _)] rfl rfl
    refine Stg.go [9] [11] rfl rfl (QAll.cons (QOp.q rfl rfl (Quiet1.build (cs := [_, _, _, _, _, _, _, _]) hT rfl rfl rfl rfl rfl rfl) rfl rfl) QAll.nil) ?_
    refine EAll.cons ?_ EAll.nil
    refine EOp.e rfl rfl rfl (EffX.storeSP (i := 0) (qv := [(_, [_, _, _, _, _, _, _, _]), (_, [_, _, _, _, _, _, _, _])]) hT rfl rfl rfl rfl rfl rfl rfl rfl rfl rfl) ?_
    rintro _ _ rfl
    apply Stg.next [] rfl rfl
    refine Stg.fin [] rfl rfl QAll.nil ?_
    replace H := H.self
    exact AtE.then_n ((HK1 _ b_65 _ H).pickP (ts := [4, 2]) (is := [0, 1]) rfl rfl (by decide) rfl)
   refine EAll.cons ?_ EAll.nil
   replace H := H.self
   replace H := H.2.2
   refine EOp.e rfl rfl rfl (EffX.mkS hT rfl rfl rfl rfl rfl rfl rfl rfl (by decide) H) ?_
   rintro _ _ ⟨v_255, h0u513, rfl, rfl, H⟩
   apply Stg.next [(15, _)] rfl rfl
   refine Stg.go [0, 1, 3] [2, 4] rfl rfl (QAll.cons (QOp.p hT rfl rfl rfl rfl rfl) (QAll.cons (QOp.p hT rfl rfl rfl rfl rfl) (QAll.cons (QOp.p hT rfl rfl rfl rfl rfl) QAll.nil))) ?_
   refine EAll.cons ?_ ?_
   ·
    replace H := H.self
    replace H := H.1
    refine EOp.e rfl rfl rfl (EffX.mkS hT rfl rfl rfl rfl rfl rfl rfl rfl (by decide) H) ?_
    rintro _ _ ⟨v_256, h0u515, rfl, rfl, H⟩
    apply Stg.next [(11, _)] rfl rfl
    refine Stg.go [3] [4] rfl rfl (QAll.cons (QOp.p hT rfl rfl rfl rfl rfl) QAll.nil) ?_
    refine EAll.cons ?_ EAll.nil
    replace H := H.self
    refine EOp.e rfl rfl rfl (EffX.mkS hT rfl rfl rfl rfl rfl rfl rfl rfl (by decide) H) ?_
    rintro _ _ ⟨v_257, h0u517, rfl, rfl, H⟩
    apply Stg.next [(13, _), (18, _)] rfl rfl
    refine Stg.go [9] [11] rfl rfl (QAll.cons (QOp.q rfl rfl (Quiet1.build (cs := [_, _, _, _, _, _, _, _]) hT rfl rfl rfl rfl rfl rfl) rfl rfl) QAll.nil) ?_
    refine EAll.cons ?_ EAll.nil
    refine EOp.e rfl rfl rfl (EffX.storeSP (i := 0) (qv := [(_, [_, _, _, _, _, _, _, _]), (_, [_, _, _, _, _, _, _, _])]) hT rfl rfl rfl rfl rfl rfl rfl rfl rfl rfl) ?_
    rintro _ _ rfl
    apply Stg.next [] rfl rfl
    refine Stg.fin [] rfl rfl QAll.nil ?_
    replace H := H.self
    exact AtE.then_n ((HK1 _ b_65 _ H).pickP (ts := [4, 2]) (is := [0, 1]) rfl rfl (by decide) rfl)
   refine EAll.cons ?_ EAll.nil
   replace H := H.self
   replace H := H.2
   refine EOp.e rfl rfl rfl (EffX.mkS hT rfl rfl rfl rfl rfl rfl rfl rfl (by decide) H) ?_
   rintro _ _ ⟨v_258, h0u519, rfl, rfl, H⟩
   apply Stg.next [(13, _)] rfl rfl
   refine Stg.go [0, 1] [2] rfl rfl (QAll.cons (QOp.p hT rfl rfl rfl rfl rfl) (QAll.cons (QOp.p hT rfl rfl rfl rfl rfl) QAll.nil)) ?_
   refine EAll.cons ?_ EAll.nil
   replace H := H.self
   refine EOp.e rfl rfl rfl (EffX.mkS hT rfl rfl rfl rfl rfl rfl rfl rfl (by decide) H) ?_
   rintro _ _ ⟨v_259, h0u521, rfl, rfl, H⟩
   apply Stg.next [(11, _), (18, _)] rfl rfl
   refine Stg.go [9] [11] rfl rfl (QAll.cons (QOp.q rfl rfl (Quiet1.build (cs := [_, _, _, _, _, _, _, _]) hT rfl rfl rfl rfl rfl rfl) rfl rfl) QAll.nil) ?_
   refine EAll.cons ?_ EAll.nil
   refine EOp.e rfl rfl rfl (EffX.storeSP (i := 0) (qv := [(_, [_, _, _, _, _, _, _, _]), (_, [_, _, _, _, _, _, _, _])]) hT rfl rfl rfl rfl rfl rfl rfl rfl rfl rfl) ?_
   rintro _ _ rfl
   apply Stg.next [] rfl rfl
   refine Stg.fin [] rfl rfl QAll.nil ?_
   replace H := H.self
   exact AtE.then_n ((HK1 _ b_65 _ H).pickP (ts := [4, 2]) (is := [0, 1]) rfl rfl (by decide) rfl)
theorem lift_clause_there (s0 : (Option Addr)) (lit : Int) (w : World) (m : Heap) (hr : Rel ⟨m, []⟩ w.heap) (S : Bool → Heap → Prop) (H : clause_there s0 lit m S) :
    Calls Try.prog 35 #[Value.pointer s0, Value.int .i64 lit] w (Post ⟨w, m⟩ Value.bool S) := by
  refine Calls.lift (args := [Value.pointer s0, Value.int .i64 lit]) Try.func35 rfl Try.ntmps35 (Nat.le_of_ble_eq_true rfl) hr (clause_there s0 lit m S) H (fun H => ?_)
  refine AtC.pick (ts := [0, 1]) rfl ?_
  unfold clause_there at H
  refine AtC.seqR ?_
  refine AtL.pures hT 1 _ _ _ _ rfl ?_
  refine AtL.nil ?_
  refine AtE.then_n (AtE.go ?_)
  refine AtC.joinSeq (β := Unit) (fun (t0 : Bool) (bb : Unit) => [(4, Value.bool t0)]) (fun (t0 : Bool) (bb : Unit) => []) [] [] H (by exact rfl) (by exact rfl) (fun t0 bb h0 H => ?_) (fun J1 H HK1 => ?_)
  ·
   refine AtC.ret ?_
   exact AtE.retN (rs := [.tmp 4]) rfl (ResAll.cons (ResAt.tmp rfl) ResAll.nil) rfl H
  ·
   refine AtC.region ?_
   refine AtL.pures hT 3 _ _ _ _ rfl ?_
   refine AtL.splitB (t := 7) H rfl (fun H => ?_) (fun H => ?_)
   ·
    refine AtL.yes rfl rfl rfl ?_
    refine AtL.pures hT 1 _ _ _ _ rfl ?_
    refine AtL.yes rfl rfl rfl ?_
    refine AtL.pures hT 1 _ _ _ _ rfl ?_
    refine AtL.yes rfl rfl rfl ?_
    obtain ⟨a, hc1, H⟩ := H
    refine AtL.q rfl (Quiet1.nilChk rfl rfl hc1) ?_
    refine AtL.yes rfl rfl rfl ?_
    refine AtL.pures hT 1 _ _ _ _ rfl ?_
    refine AtL.yes rfl rfl rfl ?_
    obtain ⟨v, hc2, H⟩ := H
    refine AtL.q rfl (Quiet1.load hT rfl rfl rfl hc2) ?_
    refine AtL.yes rfl rfl rfl ?_
    refine AtL.pures hT 1 _ _ _ _ rfl ?_
    refine AtL.yes rfl rfl rfl ?_
    refine AtL.pures hT 1 _ _ _ _ rfl ?_
    refine AtL.pures hT 2 _ _ _ _ rfl ?_
    refine AtL.splitB (t := 16) H rfl (fun H => ?_) (fun H => ?_)
    ·
     refine AtL.yes rfl rfl rfl ?_
     refine AtL.pures hT 1 _ _ _ _ rfl ?_
     refine AtL.yes rfl rfl rfl ?_
     refine AtL.pures hT 1 _ _ _ _ rfl ?_
     refine AtL.yes rfl rfl rfl ?_
     obtain ⟨a_1, hc3, H⟩ := H
     refine AtL.q rfl (Quiet1.nilChk rfl rfl hc3) ?_
     refine AtL.yes rfl rfl rfl ?_
     refine AtL.pures hT 1 _ _ _ _ rfl ?_
     refine AtL.yes rfl rfl rfl ?_
     obtain ⟨v_1, hc4, H⟩ := H
     refine AtL.q rfl (Quiet1.load hT rfl rfl rfl hc4) ?_
     refine AtL.yes rfl rfl rfl ?_
     refine AtL.pures hT 1 _ _ _ _ rfl ?_
     refine AtL.yes rfl rfl rfl ?_
     refine AtL.pures hT 1 _ _ _ _ rfl ?_
     refine AtL.yes rfl rfl rfl ?_
     refine AtL.pures hT 1 _ _ _ _ rfl ?_
     refine AtL.pures hT 2 _ _ _ _ rfl ?_
     refine AtL.nil ?_
     exact AtE.then_n ((HK1 _ () _ H).pickP (ts := [4]) (is := []) rfl rfl (by decide) rfl)
    ·
     refine AtL.noF rfl rfl rfl (by decide) rfl ?_
     refine AtL.noF rfl rfl rfl (by decide) rfl ?_
     refine AtL.noF rfl rfl rfl (by decide) rfl ?_
     refine AtL.noF rfl rfl rfl (by decide) rfl ?_
     refine AtL.noF rfl rfl rfl (by decide) rfl ?_
     refine AtL.noF rfl rfl rfl (by decide) rfl ?_
     refine AtL.noF rfl rfl rfl (by decide) rfl ?_
     refine AtL.noF rfl rfl rfl (by decide) rfl ?_
     refine AtL.pures hT 2 _ _ _ _ rfl ?_
     refine AtL.nil ?_
     exact AtE.then_n ((HK1 _ () _ H).pickP (ts := [4]) (is := []) rfl rfl (by decide) rfl)
   ·
    refine AtL.noF rfl rfl rfl (by decide) rfl ?_
    refine AtL.noF rfl rfl rfl (by decide) rfl ?_
    refine AtL.noF rfl rfl rfl (by decide) rfl ?_
    refine AtL.noF rfl rfl rfl (by decide) rfl ?_
    refine AtL.noF rfl rfl rfl (by decide) rfl ?_
    refine AtL.noF rfl rfl rfl (by decide) rfl ?_
    refine AtL.noF rfl rfl rfl (by decide) rfl ?_
    refine AtL.pures hT 2 _ _ _ _ rfl ?_
    refine AtL.noF rfl rfl rfl (by decide) rfl ?_
    refine AtL.noF rfl rfl rfl (by decide) rfl ?_
    refine AtL.noF rfl rfl rfl (by decide) rfl ?_
    refine AtL.noF rfl rfl rfl (by decide) rfl ?_
    refine AtL.noF rfl rfl rfl (by decide) rfl ?_
    refine AtL.noF rfl rfl rfl (by decide) rfl ?_
    refine AtL.noF rfl rfl rfl (by decide) rfl ?_
    refine AtL.noF rfl rfl rfl (by decide) rfl ?_
    refine AtL.pures hT 2 _ _ _ _ rfl ?_
    refine AtL.nil ?_
    exact AtE.then_n ((HK1 _ () _ H).pickP (ts := [4]) (is := []) rfl rfl (by decide) rfl)
theorem lift_clause_truth (lit : Int) (w : World) (m : Heap) (hr : Rel ⟨m, []⟩ w.heap) (S : Int → Heap → Prop) (H : clause_truth lit m S) :
    Calls Try.prog 56 #[Value.int .i64 lit] w (Post ⟨w, m⟩ (Value.int .i64) S) := by
  refine Calls.lift (args := [Value.int .i64 lit]) Try.func56 rfl Try.ntmps56 (Nat.le_of_ble_eq_true rfl) hr (clause_truth lit m S) H (fun H => ?_)
  refine AtC.pick (ts := [0]) rfl ?_
  unfold clause_truth at H
  refine AtC.seqR ?_
  refine AtL.pures hT 1 _ _ _ _ rfl ?_
  refine AtL.nil ?_
  refine AtE.then_n (AtE.go ?_)
  refine AtC.seqR ?_
  refine AtL.pures hT 6 _ _ _ _ rfl ?_
  refine AtL.nil ?_
  refine AtE.then_n (AtE.go ?_)
  refine AtC.ret ?_
  exact AtE.retN (rs := [.tmp 2]) rfl (ResAll.cons (ResAt.tmp rfl) ResAll.nil) rfl H
theorem lift_clause_fits (s0 : (Option Addr)) (lits : Sl) (w : World) (m : Heap) (hr : Rel ⟨m, []⟩ w.heap) (S : Bool → Heap → Prop) (H : clause_fits s0 lits m S) :
    Calls Try.prog 53 #[Value.pointer s0, Sl.toV lits] w (Post ⟨w, m⟩ Value.bool S) := by
  refine Calls.lift (args := [Value.pointer s0, Sl.toV lits]) Try.func53 rfl Try.ntmps53 (Nat.le_of_ble_eq_true rfl) hr (clause_fits s0 lits m S) H (fun H => ?_)
  refine AtC.pick (ts := [0, 1]) rfl ?_
  unfold clause_fits at H
  refine AtC.seqR ?_
  refine AtL.pures hT 1 _ _ _ _ rfl ?_
  refine AtL.nil ?_
  refine AtE.then_n (AtE.go ?_)
  refine AtC.seqR ?_
  refine AtL.e rfl (EffX.newM rfl H) ?_
  rintro _ _ ⟨v, h0, rfl, rfl, H⟩
  refine AtL.pures hT 1 _ _ _ _ rfl ?_
  refine AtL.nil ?_
  refine AtE.then_n (AtE.go ?_)
  refine AtC.seq ?_
  refine AtC.seqR ?_
  refine AtL.pures hT 3 _ _ _ _ rfl ?_
  refine AtL.nil ?_
  refine AtE.then_n (AtE.go ?_)
  refine AtC.block ?_
  refine AtC.loopM (fun (s0u1 : Int) => [(11, Value.int .i64 s0u1)]) (fun (s0u1 : Int) => []) [0, 1, 5, 9, 10] [11, 0, 1, 5, 9, 10] [] [] H (by exact rfl) (by exact rfl) (by exact rfl) (by decide) (by exact rfl) (fun Kp1 s0u1 h0u1 H Q1 HK1 => ?_)
  refine AtC.seqR ?_
  refine AtL.pures hT 1 _ _ _ _ rfl ?_
  refine AtL.nil ?_
  refine AtE.then_n (AtE.go ?_)
  refine AtC.seq ?_
  refine AtC.condB H rfl (fun H => ?_) (fun H => ?_)
  ·
   refine AtC.skip ?_
   refine AtE.then_n (AtE.go ?_)
   refine AtC.seq ?_
   refine AtC.block ?_
   refine AtC.seqR ?_
   obtain ⟨a_, hc1, hd1, H⟩ := H
   refine AtL.q rfl (Quiet1.idxS (s := _) hT rfl rfl rfl rfl rfl hc1 hd1) ?_
   obtain ⟨v_1, hc2, H⟩ := H
   refine AtL.q rfl (Quiet1.load hT rfl rfl rfl hc2) ?_
   refine AtL.pures hT 1 _ _ _ _ rfl ?_
   refine AtL.nil ?_
   refine AtE.then_n (AtE.go ?_)
   refine AtC.seq ?_
   refine AtC.joinSeq (β := Unit) (fun (t0 : Bool) (bb : Unit) => [(24, Value.bool t0)]) (fun (t0 : Bool) (bb : Unit) => []) [0, 1, 5, 7, 9, 10, 11] [] H (by exact rfl) (by exact rfl) (fun t0 bb h0u2 H => ?_) (fun J4 H HK4 => ?_)
   ·
    refine AtC.condB H rfl (fun H => ?_) (fun H => ?_)
    ·
     refine AtC.seqR ?_
     refine AtL.pures hT 1 _ _ _ _ rfl ?_
     refine AtL.nil ?_
     refine AtE.then_n (AtE.go ?_)
     refine AtC.ret ?_
     refine AtE.then_r ?_
     refine AtE.blk_r ?_
     refine AtE.then_r ?_
     refine AtE.then_r ?_
     refine AtE.blk_r ?_
     refine AtE.then_r ?_
     exact AtE.retN (rs := [.tmp 4]) rfl (ResAll.cons (ResAt.tmp rfl) ResAll.nil) rfl H
    ·
     refine AtC.skip ?_
     refine AtE.then_n (AtE.go ?_)
     refine AtC.region ?_
     refine AtL.pures hT 2 _ _ _ _ rfl ?_
     refine AtL.e rfl (EffX.call (f := 56) (sh := fun h => clause_truth _ h _) (H0 := H) rfl Try.call56 rfl (hl := fun w m hr hw => lift_clause_truth _ w m hr _ hw)) ?_
     rintro _ _ ⟨v_5, h0u5, rfl, rfl, H⟩
     refine AtL.e rfl (EffX.setM hT rfl rfl rfl rfl rfl rfl H) ?_
     rintro _ _ ⟨h0u6, rfl, H⟩
     refine AtL.nil ?_
     refine AtE.blk_n ?_
     refine AtE.then_n (AtE.go ?_)
     refine AtC.region ?_
     refine AtL.pures hT 2 _ _ _ _ rfl ?_
     refine AtL.nil ?_
     exact AtE.then_n ((HK1 _ _ H).pickP (ts := [11, 0, 1, 5, 9, 10]) (is := []) rfl rfl (by decide) rfl)
   ·
    refine AtC.region ?_
    refine AtL.pures hT 2 _ _ _ _ rfl ?_
    refine AtL.e rfl (EffX.call (f := 35) (sh := fun h => clause_there _ _ h _) (H0 := H) rfl Try.call35 rfl (hl := fun w m hr hw => lift_clause_there _ _ w m hr _ hw)) ?_
    rintro _ _ ⟨v_2, h0u3, rfl, rfl, H⟩
    refine AtL.pures hT 2 _ _ _ _ rfl ?_
    refine AtL.splitB (t := 19) H rfl (fun H => ?_) (fun H => ?_)
    ·
     refine AtL.noF rfl rfl rfl (by decide) rfl ?_
     refine AtL.noF rfl rfl rfl (by decide) rfl ?_
     refine AtL.noF rfl rfl rfl (by decide) rfl ?_
     refine AtL.noF rfl rfl rfl (by decide) rfl ?_
     refine AtL.pures hT 1 _ _ _ _ rfl ?_
     refine AtL.nil ?_
     exact AtE.then_n ((HK4 _ () _ H).pickP (ts := [24, 0, 1, 5, 7, 9, 10, 11]) (is := []) rfl rfl (by decide) rfl)
    ·
     refine AtL.yes rfl rfl rfl ?_
     refine AtL.pures hT 1 _ _ _ _ rfl ?_
     refine AtL.yes rfl rfl rfl ?_
     refine AtL.pures hT 1 _ _ _ _ rfl ?_
     refine AtL.yes rfl rfl rfl ?_
     refine AtL.e rfl (EffX.call (f := 56) (sh := fun h => clause_truth _ h _) (H0 := H) rfl Try.call56 rfl (hl := fun w m hr hw => lift_clause_truth _ w m hr _ hw)) ?_
     rintro _ _ ⟨v_3, h0u4, rfl, rfl, H⟩
     refine AtL.yes rfl rfl rfl ?_
     obtain ⟨fm4, v_4, hm4, hn4, H⟩ := H
     refine AtL.q rfl (Quiet1.lookM1 (key := v_3) hT rfl rfl rfl (by kernel_rfl) rfl rfl hm4 hn4) ?_
     refine AtL.pures hT 1 _ _ _ _ rfl ?_
     refine AtL.nil ?_
     exact AtE.then_n ((HK4 _ () _ H).pickP (ts := [24, 0, 1, 5, 7, 9, 10, 11]) (is := []) rfl rfl (by decide) rfl)
  ·
   refine AtC.exit ?_
   refine AtE.then_x ?_
   refine AtE.then_x ?_
   refine AtE.blk_hit ?_
   refine AtE.then_n (AtE.go ?_)
   refine AtC.seqR ?_
   refine AtL.pures hT 4 _ _ _ _ rfl ?_
   refine AtL.nil ?_
   refine AtE.then_n (AtE.go ?_)
   refine AtC.ret ?_
   exact AtE.retN (rs := [.tmp 4]) rfl (ResAll.cons (ResAt.tmp rfl) ResAll.nil) rfl H
theorem lift_slices_Clone_int_int (s0 : Sl) (w : World) (m : Heap) (hr : Rel ⟨m, []⟩ w.heap) (S : Sl → Heap → Prop) (H : slices_Clone_int_int s0 m S) :
    Calls Try.prog 54 #[Sl.toV s0] w (Post ⟨w, m⟩ Sl.toV S) := by
  refine Calls.lift (args := [Sl.toV s0]) Try.func54 rfl Try.ntmps54 (Nat.le_of_ble_eq_true rfl) hr (slices_Clone_int_int s0 m S) H (fun H => ?_)
  refine AtC.pick (ts := [0]) rfl ?_
  unfold slices_Clone_int_int at H
  refine AtC.seqR ?_
  refine AtL.pures hT 1 _ _ _ _ rfl ?_
  refine AtL.nil ?_
  refine AtE.then_n (AtE.go ?_)
  refine AtC.seq ?_
  refine AtC.seqR ?_
  refine AtL.pures hT 1 _ _ _ _ rfl ?_
  refine AtL.q rfl (Quiet1.eqNilS hT rfl rfl rfl rfl) ?_
  refine AtL.nil ?_
  refine AtE.then_n (AtE.go ?_)
  refine AtC.condB H rfl (fun H => ?_) (fun H => ?_)
  ·
   refine AtC.seqR ?_
   refine AtL.pures hT 1 _ _ _ _ rfl ?_
   refine AtL.nil ?_
   refine AtE.then_n (AtE.go ?_)
   refine AtC.ret ?_
   refine AtE.then_r ?_
   exact AtE.retN (rs := [.tmp 2]) rfl (ResAll.cons (ResAt.tmp rfl) ResAll.nil) rfl H
  ·
   refine AtC.skip ?_
   refine AtE.then_n (AtE.go ?_)
   refine AtC.seqR ?_
   refine AtLX.bs (hT := hT) (cs := []) H rfl rfl rfl rfl rfl rfl rfl rfl rfl (fun a h0 H => ?_)
   refine AtL.pures hT 1 _ _ _ _ rfl ?_
   refine AtL.e rfl (EffX.appendS (s := _) (u := _) hT rfl rfl rfl rfl rfl rfl rfl rfl rfl rfl (by decide) H) ?_
   rintro _ _ ⟨v_1, h0u1, rfl, rfl, H⟩
   refine AtL.pures hT 1 _ _ _ _ rfl ?_
   refine AtL.nil ?_
   refine AtE.then_n (AtE.go ?_)
   refine AtC.ret ?_
   exact AtE.retN (rs := [.tmp 2]) rfl (ResAll.cons (ResAt.tmp rfl) ResAll.nil) rfl H
theorem lift_clause_watch (lit : Int) (w : World) (m : Heap) (hr : Rel ⟨m, []⟩ w.heap) (S : Int → Heap → Prop) (H : clause_watch lit m S) :
    Calls Try.prog 37 #[Value.int .i64 lit] w (Post ⟨w, m⟩ (Value.int .i64) S) := by
  refine Calls.lift (args := [Value.int .i64 lit]) Try.func37 rfl Try.ntmps37 (Nat.le_of_ble_eq_true rfl) hr (clause_watch lit m S) H (fun H => ?_)
  refine AtC.pick (ts := [0]) rfl ?_
  unfold clause_watch at H
  refine AtC.seqR ?_
  refine AtL.pures hT 1 _ _ _ _ rfl ?_
  refine AtL.nil ?_
  refine AtE.then_n (AtE.go ?_)
  refine AtC.seq ?_
  refine AtC.seqR ?_
  refine AtL.pures hT 2 _ _ _ _ rfl ?_
  refine AtL.nil ?_
  refine AtE.then_n (AtE.go ?_)
  refine AtC.condB H rfl (fun H => ?_) (fun H => ?_)
  ·
   refine AtC.seqR ?_
   refine AtL.pures hT 1 _ _ _ _ rfl ?_
   refine AtL.e rfl (EffX.call (f := 56) (sh := fun h => clause_truth _ h _) (H0 := H) rfl Try.call56 rfl (hl := fun w m hr hw => lift_clause_truth _ w m hr _ hw)) ?_
   rintro _ _ ⟨v, h0, rfl, rfl, H⟩
   refine AtL.pures hT 2 _ _ _ _ rfl ?_
   refine AtL.nil ?_
   refine AtE.then_n (AtE.go ?_)
   refine AtC.ret ?_
   refine AtE.then_r ?_
   exact AtE.retN (rs := [.tmp 2]) rfl (ResAll.cons (ResAt.tmp rfl) ResAll.nil) rfl H
  ·
   refine AtC.skip ?_
   refine AtE.then_n (AtE.go ?_)
   refine AtC.seqR ?_
   refine AtL.pures hT 1 _ _ _ _ rfl ?_
   refine AtL.e rfl (EffX.call (f := 56) (sh := fun h => clause_truth _ h _) (H0 := H) rfl Try.call56 rfl (hl := fun w m hr hw => lift_clause_truth _ w m hr _ hw)) ?_
   rintro _ _ ⟨v_1, h0u1, rfl, rfl, H⟩
   refine AtL.pures hT 3 _ _ _ _ rfl ?_
   refine AtL.nil ?_
   refine AtE.then_n (AtE.go ?_)
   refine AtC.ret ?_
   exact AtE.retN (rs := [.tmp 2]) rfl (ResAll.cons (ResAt.tmp rfl) ResAll.nil) rfl H
theorem lift_clause_link (s0 : (Option Addr)) (at0 : Int) (w : World) (m : Heap) (hr : Rel ⟨m, []⟩ w.heap) (S : Unit → Heap → Prop) (H : clause_link s0 at0 m S) :
    Calls Try.prog 31 #[Value.pointer s0, Value.int .i64 at0] w (Post ⟨w, m⟩ (fun _ => Value.tuple #[]) S) := by
  refine Calls.lift (args := [Value.pointer s0, Value.int .i64 at0]) Try.func31 rfl Try.ntmps31 (Nat.le_of_ble_eq_true rfl) hr (clause_link s0 at0 m S) H (fun H => ?_)
  refine AtC.pick (ts := [0, 1]) rfl ?_
  unfold clause_link at H
  refine AtC.seqR ?_
  refine AtL.pures hT 1 _ _ _ _ rfl ?_
  obtain ⟨a, hc0, H⟩ := H
  refine AtL.q rfl (Quiet1.nilChk rfl rfl hc0) ?_
  refine AtL.pures hT 1 _ _ _ _ rfl ?_
  obtain ⟨v, hc1, H⟩ := H
  refine AtL.q rfl (Quiet1.load hT rfl rfl rfl hc1) ?_
  refine AtL.pures hT 1 _ _ _ _ rfl ?_
  obtain ⟨a_1_, hc2, hd2, H⟩ := H
  refine AtL.q rfl (Quiet1.idxS (s := _) hT rfl rfl rfl rfl rfl hc2 hd2) ?_
  refine AtL.pures hT 1 _ _ _ _ rfl ?_
  obtain ⟨v_1, hc3, H⟩ := H
  refine AtL.q rfl (Quiet1.load hT rfl rfl rfl hc3) ?_
  refine AtL.sl (hT := hT) H rfl rfl rfl rfl rfl rfl rfl (fun h => by cases h <;> rfl) rfl (fun v_2 H => ?_)
  refine AtL.pures hT 2 _ _ _ _ rfl ?_
  refine AtL.nil ?_
  refine AtE.then_n (AtE.go ?_)
  refine AtC.block ?_
  refine AtC.loopM (fun (s0u1 : Int) => [(16, Value.int .i64 s0u1)]) (fun (s0u1 : Int) => []) [0, 1, 14, 15] [16, 0, 1, 14, 15] [] [] H (by exact rfl) (by exact rfl) (by exact rfl) (by decide) (by exact rfl) (fun Kp6 s0u1 h0 H Q6 HK6 => ?_)
  refine AtC.seqR ?_
  refine AtL.pures hT 1 _ _ _ _ rfl ?_
  refine AtL.nil ?_
  refine AtE.then_n (AtE.go ?_)
  refine AtC.seq ?_
  refine AtC.condB H rfl (fun H => ?_) (fun H => ?_)
  ·
   refine AtC.skip ?_
   refine AtE.then_n (AtE.go ?_)
   refine AtC.joinSeq (β := Unit) (fun (t0 : Unit) (bb : Unit) => []) (fun (t0 : Unit) (bb : Unit) => []) [0, 1, 14, 15, 16] [] H (by exact rfl) (by exact rfl) (fun t0 bb h0u1 H => ?_) (fun J7 H HK7 => ?_)
   ·
    refine AtC.region ?_
    refine AtL.pures hT 2 _ _ _ _ rfl ?_
    refine AtL.nil ?_
    exact AtE.then_n ((HK6 _ _ H).pickP (ts := [16, 0, 1, 14, 15]) (is := []) rfl rfl (by decide) rfl)
   ·
    refine AtC.block ?_
    refine AtC.seqR ?_
    obtain ⟨a_2_, hc7, hd7, H⟩ := H
    refine AtL.q rfl (Quiet1.idxS (s := _) hT rfl rfl rfl rfl rfl hc7 hd7) ?_
    obtain ⟨v_3, hc8, H⟩ := H
    refine AtL.q rfl (Quiet1.load hT rfl rfl rfl hc8) ?_
    refine AtL.pures hT 1 _ _ _ _ rfl ?_
    refine AtL.nil ?_
    refine AtE.then_n (AtE.go ?_)
    obtain ⟨a_3, hc9, H⟩ := H
    obtain ⟨v_4, hc10, H⟩ := H
    obtain ⟨a_4, hc11, H⟩ := H
    obtain ⟨v_5, hc12, H⟩ := H
    apply AtC.stages [5, 11, 15, 16, 18] [[], [], [], [], [], [], [], [], [], [], [], [5], [5, 11], [5, 11], [], [], [5, 11, 15], [5, 11, 15, 16], [5, 11, 15, 16]] [[], [0], [0, 1], [0, 1, 2], [], [4], [], [6], [6, 7], [6, 7, 8], [], [4, 5, 10], [4, 5, 6, 7, 8, 9, 10, 11], [4, 5, 6, 7, 8, 9, 10, 11, 12], [], [14], [4, 5, 6, 7, 8, 9, 10, 11, 12, 13, 14, 15], [0, 1, 2, 3, 4, 5, 6, 7, 8, 9, 10, 11, 12, 13, 14, 15, 16], [0, 1, 2, 3, 4, 5, 6, 7, 8, 9, 10, 11, 12, 13, 14, 15, 16, 17]] hmix (by kernel_rfl) [(20, _), (21, _), (22, _), (23, _), (24, _), (26, _), (27, _), (28, _), (29, _), (30, _), (34, _)] rfl 5 rfl
    refine Stg.go [0, 1, 2, 3, 4, 6, 7, 8, 9, 10, 14] [5, 15] rfl rfl (QAll.cons (QOp.p hT rfl rfl rfl rfl rfl) (QAll.cons (QOp.q rfl rfl (Quiet1.nilChk rfl rfl hc9) rfl rfl) (QAll.cons (QOp.p hT rfl rfl rfl rfl rfl) (QAll.cons (QOp.q rfl rfl (Quiet1.load hT rfl rfl rfl hc10) rfl rfl) (QAll.cons (QOp.p hT rfl rfl rfl rfl rfl) (QAll.cons (QOp.p hT rfl rfl rfl rfl rfl) (QAll.cons (QOp.q rfl rfl (Quiet1.nilChk rfl rfl hc11) rfl rfl) (QAll.cons (QOp.p hT rfl rfl rfl rfl rfl) (QAll.cons (QOp.q rfl rfl (Quiet1.load hT rfl rfl rfl hc12) rfl rfl) (QAll.cons (QOp.p hT rfl rfl rfl rfl rfl) (QAll.cons (QOp.p hT rfl rfl rfl rfl rfl) QAll.nil))))))))))) ?_
    refine EAll.cons ?_ ?_
    ·
     replace H := H.1
     refine EOp.e rfl rfl rfl (EffX.call (f := 37) (sh := fun h => clause_watch _ h _) (H0 := H) rfl Try.call37 rfl (hl := fun w m hr hw => lift_clause_watch _ w m hr _ hw)) ?_
     rintro _ _ ⟨v_6, h0u2, rfl, rfl, H⟩
     obtain ⟨hc13, H⟩ := H
     obtain ⟨hc14, H⟩ := H
     apply Stg.next [(25, _)] rfl rfl
     refine Stg.go [0, 1, 2, 3, 6, 7, 8, 9, 10, 14] [11, 15] rfl rfl (QAll.cons (QOp.p hT rfl rfl rfl rfl rfl) (QAll.cons (QOp.q rfl rfl (Quiet1.nilChk rfl rfl hc9) rfl rfl) (QAll.cons (QOp.p hT rfl rfl rfl rfl rfl) (QAll.cons (QOp.q rfl rfl (Quiet1.load hT rfl rfl rfl hc13) rfl rfl) (QAll.cons (QOp.p hT rfl rfl rfl rfl rfl) (QAll.cons (QOp.q rfl rfl (Quiet1.nilChk rfl rfl hc11) rfl rfl) (QAll.cons (QOp.p hT rfl rfl rfl rfl rfl) (QAll.cons (QOp.q rfl rfl (Quiet1.load hT rfl rfl rfl hc14) rfl rfl) (QAll.cons (QOp.p hT rfl rfl rfl rfl rfl) (QAll.cons (QOp.p hT rfl rfl rfl rfl rfl) QAll.nil)))))))))) ?_
     refine EAll.cons ?_ ?_
     ·
      replace H := H.1
      refine EOp.e rfl rfl rfl (EffX.call (f := 37) (sh := fun h => clause_watch _ h _) (H0 := H) rfl Try.call37 rfl (hl := fun w m hr hw => lift_clause_watch _ w m hr _ hw)) ?_
      rintro _ _ ⟨v_7, h0u3, rfl, rfl, H⟩
      obtain ⟨hc15, H⟩ := H
      obtain ⟨hc16, H⟩ := H
      obtain ⟨a_5_, hc17, hd17, H⟩ := H
      obtain ⟨v_8, hc18, H⟩ := H
      apply Stg.next [(31, _), (32, _), (33, _)] rfl rfl
      refine Stg.go [0, 1, 2, 3, 6, 7, 8, 9, 12, 13, 14] [15] rfl rfl (QAll.cons (QOp.p hT rfl rfl rfl rfl rfl) (QAll.cons (QOp.q rfl rfl (Quiet1.nilChk rfl rfl hc9) rfl rfl) (QAll.cons (QOp.p hT rfl rfl rfl rfl rfl) (QAll.cons (QOp.q rfl rfl (Quiet1.load hT rfl rfl rfl hc15) rfl rfl) (QAll.cons (QOp.p hT rfl rfl rfl rfl rfl) (QAll.cons (QOp.q rfl rfl (Quiet1.nilChk rfl rfl hc11) rfl rfl) (QAll.cons (QOp.p hT rfl rfl rfl rfl rfl) (QAll.cons (QOp.q rfl rfl (Quiet1.load hT rfl rfl rfl hc16) rfl rfl) (QAll.cons (QOp.q rfl rfl (Quiet1.idxS (s := _) hT rfl rfl rfl rfl rfl hc17 hd17) rfl rfl) (QAll.cons (QOp.q rfl rfl (Quiet1.load hT rfl rfl rfl hc18) rfl rfl) (QAll.cons (QOp.p hT rfl rfl rfl rfl rfl) QAll.nil))))))))))) ?_
      refine EAll.cons ?_ EAll.nil
      refine EOp.e rfl rfl rfl (EffX.buildS2 (cs := [_]) hT rfl rfl rfl rfl rfl rfl rfl rfl H) ?_
      rintro _ _ ⟨a_6, h0u4, rfl, rfl, H⟩
      obtain ⟨hc19, H⟩ := H
      obtain ⟨hc20, H⟩ := H
      obtain ⟨hc21, H⟩ := H
      apply Stg.next [(35, _)] rfl rfl
      refine Stg.go [0, 1, 2, 3, 6, 7, 8, 9, 12, 13] [16] rfl rfl (QAll.cons (QOp.p hT rfl rfl rfl rfl rfl) (QAll.cons (QOp.q rfl rfl (Quiet1.nilChk rfl rfl hc9) rfl rfl) (QAll.cons (QOp.p hT rfl rfl rfl rfl rfl) (QAll.cons (QOp.q rfl rfl (Quiet1.load hT rfl rfl rfl hc19) rfl rfl) (QAll.cons (QOp.p hT rfl rfl rfl rfl rfl) (QAll.cons (QOp.q rfl rfl (Quiet1.nilChk rfl rfl hc11) rfl rfl) (QAll.cons (QOp.p hT rfl rfl rfl rfl rfl) (QAll.cons (QOp.q rfl rfl (Quiet1.load hT rfl rfl rfl hc20) rfl rfl) (QAll.cons (QOp.q rfl rfl (Quiet1.idxS (s := _) hT rfl rfl rfl rfl rfl hc17 hd17) rfl rfl) (QAll.cons (QOp.q rfl rfl (Quiet1.load hT rfl rfl rfl hc21) rfl rfl) QAll.nil)))))))))) ?_
      refine EAll.cons ?_ EAll.nil
      refine EOp.e rfl rfl rfl (EffX.appendS (s := _) (u := _) hT rfl rfl rfl rfl rfl rfl rfl rfl rfl rfl (by decide) H) ?_
      rintro _ _ ⟨v_10, h0u5, rfl, rfl, H⟩
      obtain ⟨hc22, H⟩ := H
      obtain ⟨a_7_, hc23, hd23, H⟩ := H
      apply Stg.next [(36, _), (37, _)] rfl rfl
      refine Stg.go [0, 1, 2, 3, 17] [18] rfl rfl (QAll.cons (QOp.p hT rfl rfl rfl rfl rfl) (QAll.cons (QOp.q rfl rfl (Quiet1.nilChk rfl rfl hc9) rfl rfl) (QAll.cons (QOp.p hT rfl rfl rfl rfl rfl) (QAll.cons (QOp.q rfl rfl (Quiet1.load hT rfl rfl rfl hc22) rfl rfl) (QAll.cons (QOp.q rfl rfl (Quiet1.idxS (s := _) hT rfl rfl rfl rfl rfl hc23 hd23) rfl rfl) QAll.nil))))) ?_
      refine EAll.cons ?_ EAll.nil
      refine EOp.e rfl rfl rfl (EffX.store hT rfl rfl rfl rfl rfl H) ?_
      rintro _ _ ⟨h0u6, rfl, H⟩
      apply Stg.next [] rfl rfl
      refine Stg.fin [] rfl rfl QAll.nil ?_
      refine AtE.blk_n ?_
      exact AtE.then_n ((HK7 _ () _ H).pickP (ts := [0, 1, 14, 15, 16]) (is := []) rfl rfl (by decide) rfl)
     refine EAll.cons ?_ EAll.nil
     replace H := H.2
     refine EOp.e rfl rfl rfl (EffX.buildS2 (cs := [_]) hT rfl rfl rfl rfl rfl rfl rfl rfl H) ?_
     rintro _ _ ⟨a_8, h0u7, rfl, rfl, H⟩
     obtain ⟨hc24, H⟩ := H
     obtain ⟨hc25, H⟩ := H
     apply Stg.next [(35, _)] rfl rfl
     refine Stg.go [0, 1, 2, 3, 6, 7, 8, 9, 10] [11] rfl rfl (QAll.cons (QOp.p hT rfl rfl rfl rfl rfl) (QAll.cons (QOp.q rfl rfl (Quiet1.nilChk rfl rfl hc9) rfl rfl) (QAll.cons (QOp.p hT rfl rfl rfl rfl rfl) (QAll.cons (QOp.q rfl rfl (Quiet1.load hT rfl rfl rfl hc24) rfl rfl) (QAll.cons (QOp.p hT rfl rfl rfl rfl rfl) (QAll.cons (QOp.q rfl rfl (Quiet1.nilChk rfl rfl hc11) rfl rfl) (QAll.cons (QOp.p hT rfl rfl rfl rfl rfl) (QAll.cons (QOp.q rfl rfl (Quiet1.load hT rfl rfl rfl hc25) rfl rfl) (QAll.cons (QOp.p hT rfl rfl rfl rfl rfl) QAll.nil))))))))) ?_
     refine EAll.cons ?_ EAll.nil
     refine EOp.e rfl rfl rfl (EffX.call (f := 37) (sh := fun h => clause_watch _ h _) (H0 := H) rfl Try.call37 rfl (hl := fun w m hr hw => lift_clause_watch _ w m hr _ hw)) ?_
     rintro _ _ ⟨v_12, h0u8, rfl, rfl, H⟩
     obtain ⟨hc26, H⟩ := H
     obtain ⟨hc27, H⟩ := H
     obtain ⟨a_9_, hc28, hd28, H⟩ := H
     obtain ⟨v_13, hc29, H⟩ := H
     apply Stg.next [(31, _), (32, _), (33, _)] rfl rfl
     refine Stg.go [0, 1, 2, 3, 6, 7, 8, 9, 12, 13] [16] rfl rfl (QAll.cons (QOp.p hT rfl rfl rfl rfl rfl) (QAll.cons (QOp.q rfl rfl (Quiet1.nilChk rfl rfl hc9) rfl rfl) (QAll.cons (QOp.p hT rfl rfl rfl rfl rfl) (QAll.cons (QOp.q rfl rfl (Quiet1.load hT rfl rfl rfl hc26) rfl rfl) (QAll.cons (QOp.p hT rfl rfl rfl rfl rfl) (QAll.cons (QOp.q rfl rfl (Quiet1.nilChk rfl rfl hc11) rfl rfl) (QAll.cons (QOp.p hT rfl rfl rfl rfl rfl) (QAll.cons (QOp.q rfl rfl (Quiet1.load hT rfl rfl rfl hc27) rfl rfl) (QAll.cons (QOp.q rfl rfl (Quiet1.idxS (s := _) hT rfl rfl rfl rfl rfl hc28 hd28) rfl rfl) (QAll.cons (QOp.q rfl rfl (Quiet1.load hT rfl rfl rfl hc29) rfl rfl) QAll.nil)))))))))) ?_
     refine EAll.cons ?_ EAll.nil
     refine EOp.e rfl rfl rfl (EffX.appendS (s := _) (u := _) hT rfl rfl rfl rfl rfl rfl rfl rfl rfl rfl (by decide) H) ?_
     rintro _ _ ⟨v_14, h0u9, rfl, rfl, H⟩
     obtain ⟨hc30, H⟩ := H
     obtain ⟨a_10_, hc31, hd31, H⟩ := H
     apply Stg.next [(36, _), (37, _)] rfl rfl
     refine Stg.go [0, 1, 2, 3, 17] [18] rfl rfl (QAll.cons (QOp.p hT rfl rfl rfl rfl rfl) (QAll.cons (QOp.q rfl rfl (Quiet1.nilChk rfl rfl hc9) rfl rfl) (QAll.cons (QOp.p hT rfl rfl rfl rfl rfl) (QAll.cons (QOp.q rfl rfl (Quiet1.load hT rfl rfl rfl hc30) rfl rfl) (QAll.cons (QOp.q rfl rfl (Quiet1.idxS (s := _) hT rfl rfl rfl rfl rfl hc31 hd31) rfl rfl) QAll.nil))))) ?_
     refine EAll.cons ?_ EAll.nil
     refine EOp.e rfl rfl rfl (EffX.store hT rfl rfl rfl rfl rfl H) ?_
     rintro _ _ ⟨h0u10, rfl, H⟩
     apply Stg.next [] rfl rfl
     refine Stg.fin [] rfl rfl QAll.nil ?_
     refine AtE.blk_n ?_
     exact AtE.then_n ((HK7 _ () _ H).pickP (ts := [0, 1, 14, 15, 16]) (is := []) rfl rfl (by decide) rfl)
    refine EAll.cons ?_ EAll.nil
    replace H := H.2
    refine EOp.e rfl rfl rfl (EffX.buildS2 (cs := [_]) hT rfl rfl rfl rfl rfl rfl rfl rfl H) ?_
    rintro _ _ ⟨a_11, h0u11, rfl, rfl, H⟩
    obtain ⟨hc32, H⟩ := H
    obtain ⟨hc33, H⟩ := H
    apply Stg.next [(35, _)] rfl rfl
    refine Stg.go [0, 1, 2, 3, 4, 6, 7, 8, 9, 10] [5] rfl rfl (QAll.cons (QOp.p hT rfl rfl rfl rfl rfl) (QAll.cons (QOp.q rfl rfl (Quiet1.nilChk rfl rfl hc9) rfl rfl) (QAll.cons (QOp.p hT rfl rfl rfl rfl rfl) (QAll.cons (QOp.q rfl rfl (Quiet1.load hT rfl rfl rfl hc32) rfl rfl) (QAll.cons (QOp.p hT rfl rfl rfl rfl rfl) (QAll.cons (QOp.p hT rfl rfl rfl rfl rfl) (QAll.cons (QOp.q rfl rfl (Quiet1.nilChk rfl rfl hc11) rfl rfl) (QAll.cons (QOp.p hT rfl rfl rfl rfl rfl) (QAll.cons (QOp.q rfl rfl (Quiet1.load hT rfl rfl rfl hc33) rfl rfl) (QAll.cons (QOp.p hT rfl rfl rfl rfl rfl) QAll.nil)))))))))) ?_
    refine EAll.cons ?_ EAll.nil
    refine EOp.e rfl rfl rfl (EffX.call (f := 37) (sh := fun h => clause_watch _ h _) (H0 := H) rfl Try.call37 rfl (hl := fun w m hr hw => lift_clause_watch _ w m hr _ hw)) ?_
    rintro _ _ ⟨v_16, h0u12, rfl, rfl, H⟩
    obtain ⟨hc34, H⟩ := H
    obtain ⟨hc35, H⟩ := H
    apply Stg.next [(25, _)] rfl rfl
    refine Stg.go [0, 1, 2, 3, 6, 7, 8, 9, 10] [11] rfl rfl (QAll.cons (QOp.p hT rfl rfl rfl rfl rfl) (QAll.cons (QOp.q rfl rfl (Quiet1.nilChk rfl rfl hc9) rfl rfl) (QAll.cons (QOp.p hT rfl rfl rfl rfl rfl) (QAll.cons (QOp.q rfl rfl (Quiet1.load hT rfl rfl rfl hc34) rfl rfl) (QAll.cons (QOp.p hT rfl rfl rfl rfl rfl) (QAll.cons (QOp.q rfl rfl (Quiet1.nilChk rfl rfl hc11) rfl rfl) (QAll.cons (QOp.p hT rfl rfl rfl rfl rfl) (QAll.cons (QOp.q rfl rfl (Quiet1.load hT rfl rfl rfl hc35) rfl rfl) (QAll.cons (QOp.p hT rfl rfl rfl rfl rfl) QAll.nil))))))))) ?_
    refine EAll.cons ?_ EAll.nil
    refine EOp.e rfl rfl rfl (EffX.call (f := 37) (sh := fun h => clause_watch _ h _) (H0 := H) rfl Try.call37 rfl (hl := fun w m hr hw => lift_clause_watch _ w m hr _ hw)) ?_
    rintro _ _ ⟨v_17, h0u13, rfl, rfl, H⟩
    obtain ⟨hc36, H⟩ := H
    obtain ⟨hc37, H⟩ := H
    obtain ⟨a_12_, hc38, hd38, H⟩ := H
    obtain ⟨v_18, hc39, H⟩ := H
    apply Stg.next [(31, _), (32, _), (33, _)] rfl rfl
    refine Stg.go [0, 1, 2, 3, 6, 7, 8, 9, 12, 13] [16] rfl rfl (QAll.cons (QOp.p hT rfl rfl rfl rfl rfl) (QAll.cons (QOp.q rfl rfl (Quiet1.nilChk rfl rfl hc9) rfl rfl) (QAll.cons (QOp.p hT rfl rfl rfl rfl rfl) (QAll.cons (QOp.q rfl rfl (Quiet1.load hT rfl rfl rfl hc36) rfl rfl) (QAll.cons (QOp.p hT rfl rfl rfl rfl rfl) (QAll.cons (QOp.q rfl rfl (Quiet1.nilChk rfl rfl hc11) rfl rfl) (QAll.cons (QOp.p hT rfl rfl rfl rfl rfl) (QAll.cons (QOp.q rfl rfl (Quiet1.load hT rfl rfl rfl hc37) rfl rfl) (QAll.cons (QOp.q rfl rfl (Quiet1.idxS (s := _) hT rfl rfl rfl rfl rfl hc38 hd38) rfl rfl) (QAll.cons (QOp.q rfl rfl (Quiet1.load hT rfl rfl rfl hc39) rfl rfl) QAll.nil)))))))))) ?_
    refine EAll.cons ?_ EAll.nil
    refine EOp.e rfl rfl rfl (EffX.appendS (s := _) (u := _) hT rfl rfl rfl rfl rfl rfl rfl rfl rfl rfl (by decide) H) ?_
    rintro _ _ ⟨v_19, h0u14, rfl, rfl, H⟩
    obtain ⟨hc40, H⟩ := H
    obtain ⟨a_13_, hc41, hd41, H⟩ := H
    apply Stg.next [(36, _), (37, _)] rfl rfl
    refine Stg.go [0, 1, 2, 3, 17] [18] rfl rfl (QAll.cons (QOp.p hT rfl rfl rfl rfl rfl) (QAll.cons (QOp.q rfl rfl (Quiet1.nilChk rfl rfl hc9) rfl rfl) (QAll.cons (QOp.p hT rfl rfl rfl rfl rfl) (QAll.cons (QOp.q rfl rfl (Quiet1.load hT rfl rfl rfl hc40) rfl rfl) (QAll.cons (QOp.q rfl rfl (Quiet1.idxS (s := _) hT rfl rfl rfl rfl rfl hc41 hd41) rfl rfl) QAll.nil))))) ?_
    refine EAll.cons ?_ EAll.nil
    refine EOp.e rfl rfl rfl (EffX.store hT rfl rfl rfl rfl rfl H) ?_
    rintro _ _ ⟨h0u15, rfl, H⟩
    apply Stg.next [] rfl rfl
    refine Stg.fin [] rfl rfl QAll.nil ?_
    refine AtE.blk_n ?_
    exact AtE.then_n ((HK7 _ () _ H).pickP (ts := [0, 1, 14, 15, 16]) (is := []) rfl rfl (by decide) rfl)
  ·
   refine AtC.exit ?_
   refine AtE.then_x ?_
   refine AtE.then_x ?_
   refine AtE.blk_hit ?_
   exact AtE.endN rfl rfl H
theorem lift_clause_Add (s0 : (Option Addr)) (lits : Sl) (learned : Bool) (w : World) (m : Heap) (hr : Rel ⟨m, []⟩ w.heap) (S : (Int × Int) → Heap → Prop) (H : clause_Add s0 lits learned m S) :
    Calls Try.prog 22 #[Value.pointer s0, Sl.toV lits, Value.bool learned] w (Post ⟨w, m⟩ (fun r => Value.tuple #[(Value.int .i64) r.1, (Value.int .i64) r.2]) S) := by
  refine Calls.lift (args := [Value.pointer s0, Sl.toV lits, Value.bool learned]) Try.func22 rfl Try.ntmps22 (Nat.le_of_ble_eq_true rfl) hr (clause_Add s0 lits learned m S) H (fun H => ?_)
  refine AtC.pick (ts := [0, 1, 2]) rfl ?_
  unfold clause_Add at H
  refine AtC.seqR ?_
  refine AtL.pures hT 2 _ _ _ _ rfl ?_
  refine AtL.nil ?_
  refine AtE.then_n (AtE.go ?_)
  refine AtC.seq ?_
  refine AtC.seqR ?_
  refine AtL.pures hT 2 _ _ _ _ rfl ?_
  refine AtL.e rfl (EffX.call (f := 53) (sh := fun h => clause_fits _ _ h _) (H0 := H) rfl Try.call53 rfl (hl := fun w m hr hw => lift_clause_fits _ _ w m hr _ hw)) ?_
  rintro _ _ ⟨v, h0, rfl, rfl, H⟩
  refine AtL.pures hT 1 _ _ _ _ rfl ?_
  refine AtL.nil ?_
  refine AtE.then_n (AtE.go ?_)
  refine AtC.condB H rfl (fun H => ?_) (fun H => ?_)
  ·
   refine AtC.seqR ?_
   refine AtL.pures hT 2 _ _ _ _ rfl ?_
   refine AtL.nil ?_
   refine AtE.then_n (AtE.go ?_)
   refine AtC.ret ?_
   refine AtE.then_r ?_
   exact AtE.retN (rs := [.tmp 6, .tmp 7]) rfl (ResAll.cons (ResAt.tmp rfl) (ResAll.cons (ResAt.tmp rfl) ResAll.nil)) rfl H
  ·
   refine AtC.skip ?_
   refine AtE.then_n (AtE.go ?_)
   refine AtC.seqR ?_
   refine AtL.pures hT 1 _ _ _ _ rfl ?_
   obtain ⟨a, hc0, H⟩ := H
   refine AtL.q rfl (Quiet1.nilChk rfl rfl hc0) ?_
   refine AtL.pures hT 1 _ _ _ _ rfl ?_
   obtain ⟨v_1, hc1, H⟩ := H
   refine AtL.q rfl (Quiet1.load hT rfl rfl rfl hc1) ?_
   refine AtL.pures hT 2 _ _ _ _ rfl ?_
   replace H := H _ rfl
   refine AtL.nil ?_
   refine AtE.then_n (AtE.go ?_)
   obtain ⟨a_1, hc2, H⟩ := H
   obtain ⟨v_2, hc3, H⟩ := H
   apply AtC.seqS [6, 9, 10, 13] [[], [], [], [], [], [], [], [], [6], [6], [6, 9], [6, 9, 10], [6, 9, 10], [6, 9, 10]] [[], [], [1], [1, 2], [1, 2, 3], [], [5], [], [5, 6, 7], [5, 6, 7, 8], [1, 2, 3, 4, 5, 6, 7, 8, 9], [0, 1, 2, 3, 4, 5, 6, 7, 8, 9, 10], [0, 1, 2, 3, 4, 5, 6, 7, 8, 9, 10, 11], [0, 1, 2, 3, 4, 5, 6, 7, 8, 9, 10, 11, 12]] hmix (by kernel_rfl) [(18, _), (19, _), (20, _), (21, _), (22, _), (23, _), (25, _)] rfl 4 rfl
   refine Stg.go [0, 1, 2, 3, 4, 5, 7] [6] rfl rfl (QAll.cons (QOp.p hT rfl rfl rfl rfl rfl) (QAll.cons (QOp.p hT rfl rfl rfl rfl rfl) (QAll.cons (QOp.q rfl rfl (Quiet1.nilChk rfl rfl hc2) rfl rfl) (QAll.cons (QOp.p hT rfl rfl rfl rfl rfl) (QAll.cons (QOp.q rfl rfl (Quiet1.load hT rfl rfl rfl hc3) rfl rfl) (QAll.cons (QOp.p hT rfl rfl rfl rfl rfl) (QAll.cons (QOp.p hT rfl rfl rfl rfl rfl) QAll.nil))))))) ?_
   refine EAll.cons ?_ EAll.nil
   refine EOp.e rfl rfl rfl (EffX.call (f := 54) (sh := fun h => slices_Clone_int_int _ h _) (H0 := H) rfl Try.call54 rfl (hl := fun w m hr hw => lift_slices_Clone_int_int _ w m hr _ hw)) ?_
   rintro _ _ ⟨v_3, h0u1, rfl, rfl, H⟩
   obtain ⟨hc4, H⟩ := H
   apply Stg.next [(24, _), (26, _)] rfl rfl
   refine Stg.go [0, 1, 2, 3, 4, 7, 8] [9] rfl rfl (QAll.cons (QOp.p hT rfl rfl rfl rfl rfl) (QAll.cons (QOp.p hT rfl rfl rfl rfl rfl) (QAll.cons (QOp.q rfl rfl (Quiet1.nilChk rfl rfl hc2) rfl rfl) (QAll.cons (QOp.p hT rfl rfl rfl rfl rfl) (QAll.cons (QOp.q rfl rfl (Quiet1.load hT rfl rfl rfl hc4) rfl rfl) (QAll.cons (QOp.p hT rfl rfl rfl rfl rfl) (QAll.cons (QOp.q rfl rfl (Quiet1.build (cs := [_, _, _]) hT rfl rfl rfl rfl rfl rfl) rfl rfl) QAll.nil))))))) ?_
   refine EAll.cons ?_ EAll.nil
   refine EOp.e rfl rfl rfl (EffX.buildS2 (cs := [_, _, _]) hT rfl rfl rfl rfl rfl rfl rfl rfl H) ?_
   rintro _ _ ⟨a_2, h0u2, rfl, rfl, H⟩
   obtain ⟨hc5, H⟩ := H
   apply Stg.next [(27, _)] rfl rfl
   refine Stg.go [0, 1, 2, 3, 4] [10] rfl rfl (QAll.cons (QOp.p hT rfl rfl rfl rfl rfl) (QAll.cons (QOp.p hT rfl rfl rfl rfl rfl) (QAll.cons (QOp.q rfl rfl (Quiet1.nilChk rfl rfl hc2) rfl rfl) (QAll.cons (QOp.p hT rfl rfl rfl rfl rfl) (QAll.cons (QOp.q rfl rfl (Quiet1.load hT rfl rfl rfl hc5) rfl rfl) QAll.nil))))) ?_
   refine EAll.cons ?_ EAll.nil
   refine EOp.e rfl rfl rfl (EffX.appendS (s := _) (u := _) hT rfl rfl rfl rfl rfl rfl rfl rfl rfl rfl (by decide) H) ?_
   rintro _ _ ⟨v_5, h0u3, rfl, rfl, H⟩
   obtain ⟨a_3, hc6, H⟩ := H
   apply Stg.next [(28, _), (29, _), (30, _)] rfl rfl
   refine Stg.go [0, 11, 12] [13] rfl rfl (QAll.cons (QOp.p hT rfl rfl rfl rfl rfl) (QAll.cons (QOp.q rfl rfl (Quiet1.nilChk rfl rfl hc6) rfl rfl) (QAll.cons (QOp.p hT rfl rfl rfl rfl rfl) QAll.nil))) ?_
   refine EAll.cons ?_ EAll.nil
   refine EOp.e rfl rfl rfl (EffX.store hT rfl rfl rfl rfl rfl H) ?_
   rintro _ _ ⟨h0u4, rfl, H⟩
   apply Stg.next [] rfl rfl
   refine Stg.fin [] rfl rfl QAll.nil ?_
   refine AtE.then_n (AtE.go ?_)
   refine AtC.seqR ?_
   refine AtL.pures hT 2 _ _ _ _ rfl ?_
   refine AtL.e rfl (EffX.call (f := 31) (sh := fun h => clause_link _ _ h _) (H0 := H) rfl Try.call31 rfl (hl := fun w m hr hw => lift_clause_link _ _ w m hr _ hw)) ?_
   rintro _ _ ⟨v_6, h0u5, rfl, rfl, H⟩
   refine AtL.nil ?_
   refine AtE.then_n (AtE.go ?_)
   refine AtC.seqR ?_
   refine AtL.pures hT 3 _ _ _ _ rfl ?_
   refine AtL.nil ?_
   refine AtE.then_n (AtE.go ?_)
   refine AtC.ret ?_
   exact AtE.retN (rs := [.tmp 6, .tmp 7]) rfl (ResAll.cons (ResAt.tmp rfl) (ResAll.cons (ResAt.tmp rfl) ResAll.nil)) rfl H
theorem lift_clause_sign (lit : Int) (w : World) (m : Heap) (hr : Rel ⟨m, []⟩ w.heap) (S : Int → Heap → Prop) (H : clause_sign lit m S) :
    Calls Try.prog 57 #[Value.int .i64 lit] w (Post ⟨w, m⟩ (Value.int .i64) S) := by
  refine Calls.lift (args := [Value.int .i64 lit]) Try.func57 rfl Try.ntmps57 (Nat.le_of_ble_eq_true rfl) hr (clause_sign lit m S) H (fun H => ?_)
  refine AtC.pick (ts := [0]) rfl ?_
  unfold clause_sign at H
  refine AtC.seqR ?_
  refine AtL.pures hT 1 _ _ _ _ rfl ?_
  refine AtL.nil ?_
  refine AtE.then_n (AtE.go ?_)
  refine AtC.seqR ?_
  refine AtL.pures hT 4 _ _ _ _ rfl ?_
  refine AtL.nil ?_
  refine AtE.then_n (AtE.go ?_)
  refine AtC.ret ?_
  exact AtE.retN (rs := [.tmp 2]) rfl (ResAll.cons (ResAt.tmp rfl) ResAll.nil) rfl H
theorem lift_clause_Value (s0 : Sl × Sl × Sl × Sl × Sl × Sl × Sl × Int) (lit : Int) (w : World) (m : Heap) (hr : Rel ⟨m, []⟩ w.heap) (S : Int → Heap → Prop) (H : clause_Value s0 lit m S) :
    Calls Try.prog 27 #[Value.agg (C_sl_sl_sl_sl_sl_sl_sl_i64 s0).toArray, Value.int .i64 lit] w (Post ⟨w, m⟩ (Value.int .i64) S) := by
  refine Calls.lift (args := [Value.agg (C_sl_sl_sl_sl_sl_sl_sl_i64 s0).toArray, Value.int .i64 lit]) Try.func27 rfl Try.ntmps27 (Nat.le_of_ble_eq_true rfl) hr (clause_Value s0 lit m S) H (fun H => ?_)
  refine AtC.pick (ts := [0, 1]) rfl ?_
  unfold clause_Value at H
  refine AtC.seqR ?_
  refine AtL.e rfl (EffX.box (cs := [_, _, _, _, _, _, _, _]) rfl rfl rfl H) ?_
  rintro _ _ ⟨s0u1, h0, rfl, rfl, H⟩
  refine AtL.pures hT 1 _ _ _ _ rfl ?_
  refine AtL.nil ?_
  refine AtE.then_n (AtE.go ?_)
  refine AtC.seq ?_
  refine AtC.seqR ?_
  refine AtL.pures hT 1 _ _ _ _ rfl ?_
  refine AtL.e rfl (EffX.call (f := 35) (sh := fun h => clause_there _ _ h _) (H0 := H) rfl Try.call35 rfl (hl := fun w m hr hw => lift_clause_there _ _ w m hr _ hw)) ?_
  rintro _ _ ⟨v, h0u1, rfl, rfl, H⟩
  refine AtL.pures hT 1 _ _ _ _ rfl ?_
  refine AtL.nil ?_
  refine AtE.then_n (AtE.go ?_)
  refine AtC.condB H rfl (fun H => ?_) (fun H => ?_)
  ·
   refine AtC.seqR ?_
   refine AtL.pures hT 1 _ _ _ _ rfl ?_
   refine AtL.nil ?_
   refine AtE.then_n (AtE.go ?_)
   refine AtC.ret ?_
   refine AtE.then_r ?_
   exact AtE.retN (rs := [.tmp 4]) rfl (ResAll.cons (ResAt.tmp rfl) ResAll.nil) rfl H
  ·
   refine AtC.skip ?_
   refine AtE.then_n (AtE.go ?_)
   obtain ⟨v_1, hc0, H⟩ := H
   apply AtC.seqS [3, 7] [[], [], [], [], [3], [3], [], [3], [3, 7], [3, 7]] [[], [0], [], [2], [0, 1, 2, 3], [0, 1, 2, 3, 4], [], [2, 3, 6], [0, 1, 2, 3, 4, 5, 6, 7], [0, 1, 2, 3, 4, 5, 6, 7, 8]] hmix (by kernel_rfl) [(8, _), (9, _), (10, _), (14, _)] rfl 2 rfl
   refine Stg.go [0, 1, 2, 6] [3] rfl rfl (QAll.cons (QOp.p hT rfl rfl rfl rfl rfl) (QAll.cons (QOp.q rfl rfl (Quiet1.load hT rfl rfl rfl hc0) rfl rfl) (QAll.cons (QOp.p hT rfl rfl rfl rfl rfl) (QAll.cons (QOp.p hT rfl rfl rfl rfl rfl) QAll.nil)))) ?_
   refine EAll.cons ?_ EAll.nil
   refine EOp.e rfl rfl rfl (EffX.call (f := 56) (sh := fun h => clause_truth _ h _) (H0 := H) rfl Try.call56 rfl (hl := fun w m hr hw => lift_clause_truth _ w m hr _ hw)) ?_
   rintro _ _ ⟨v_2, h0u2, rfl, rfl, H⟩
   obtain ⟨hc1, H⟩ := H
   obtain ⟨a_, hc2, hd2, H⟩ := H
   obtain ⟨v_3, hc3, H⟩ := H
   apply Stg.next [(11, _), (12, _), (13, _)] rfl rfl
   refine Stg.go [0, 1, 4, 5, 6] [7] rfl rfl (QAll.cons (QOp.p hT rfl rfl rfl rfl rfl) (QAll.cons (QOp.q rfl rfl (Quiet1.load hT rfl rfl rfl hc1) rfl rfl) (QAll.cons (QOp.q rfl rfl (Quiet1.idxS (s := _) hT rfl rfl rfl rfl rfl hc2 hd2) rfl rfl) (QAll.cons (QOp.q rfl rfl (Quiet1.load hT rfl rfl rfl hc3) rfl rfl) (QAll.cons (QOp.p hT rfl rfl rfl rfl rfl) QAll.nil))))) ?_
   refine EAll.cons ?_ EAll.nil
   refine EOp.e rfl rfl rfl (EffX.call (f := 57) (sh := fun h => clause_sign _ h _) (H0 := H) rfl Try.call57 rfl (hl := fun w m hr hw => lift_clause_sign _ w m hr _ hw)) ?_
   rintro _ _ ⟨v_4, h0u3, rfl, rfl, H⟩
   obtain ⟨hc4, H⟩ := H
   obtain ⟨hc5, H⟩ := H
   apply Stg.next [(15, _), (16, _), (4, _)] rfl rfl
   refine Stg.fin [0, 1, 4, 5, 8, 9] rfl rfl (QAll.cons (QOp.p hT rfl rfl rfl rfl rfl) (QAll.cons (QOp.q rfl rfl (Quiet1.load hT rfl rfl rfl hc4) rfl rfl) (QAll.cons (QOp.q rfl rfl (Quiet1.idxS (s := _) hT rfl rfl rfl rfl rfl hc2 hd2) rfl rfl) (QAll.cons (QOp.q rfl rfl (Quiet1.load hT rfl rfl rfl hc5) rfl rfl) (QAll.cons (QOp.p hT rfl rfl rfl rfl rfl) (QAll.cons (QOp.p hT rfl rfl rfl rfl rfl) QAll.nil)))))) ?_
   refine AtE.then_n (AtE.go ?_)
   refine AtC.ret ?_
   exact AtE.retN (rs := [.tmp 4]) rfl (ResAll.cons (ResAt.tmp rfl) ResAll.nil) rfl H
theorem lift_clause_put (s0 : (Option Addr)) (lit : Int) (reason : Int) (w : World) (m : Heap) (hr : Rel ⟨m, []⟩ w.heap) (S : Unit → Heap → Prop) (H : clause_put s0 lit reason m S) :
    Calls Try.prog 36 #[Value.pointer s0, Value.int .i64 lit, Value.int .i64 reason] w (Post ⟨w, m⟩ (fun _ => Value.tuple #[]) S) := by
  refine Calls.lift (args := [Value.pointer s0, Value.int .i64 lit, Value.int .i64 reason]) Try.func36 rfl Try.ntmps36 (Nat.le_of_ble_eq_true rfl) hr (clause_put s0 lit reason m S) H (fun H => ?_)
  refine AtC.pick (ts := [0, 1, 2]) rfl ?_
  unfold clause_put at H
  refine AtC.seqR ?_
  refine AtL.pures hT 1 _ _ _ _ rfl ?_
  refine AtL.e rfl (EffX.call (f := 56) (sh := fun h => clause_truth _ h _) (H0 := H) rfl Try.call56 rfl (hl := fun w m hr hw => lift_clause_truth _ w m hr _ hw)) ?_
  rintro _ _ ⟨v, h0, rfl, rfl, H⟩
  refine AtL.pures hT 1 _ _ _ _ rfl ?_
  refine AtL.nil ?_
  refine AtE.then_n (AtE.go ?_)
  obtain ⟨a, hc0, H⟩ := H
  obtain ⟨v_1, hc1, H⟩ := H
  obtain ⟨a_1, hc2, H⟩ := H
  obtain ⟨v_2, hc3, H⟩ := H
  obtain ⟨a_2, hc4, H⟩ := H
  obtain ⟨v_3, hc5, H⟩ := H
  obtain ⟨a_3, hc6, H⟩ := H
  obtain ⟨v_4, hc7, H⟩ := H
  apply AtC.seqS [16, 24, 26, 28] [[], [], [], [], [], [], [], [], [], [], [], [], [], [], [], [], [], [], [], [], [], [], [], [16], [16], [16, 24], [16, 24], [16, 24, 26], [16, 24, 26]] [[], [0], [0, 1], [0, 1, 2], [], [], [5], [5, 6], [5, 6, 7], [], [], [10], [10, 11], [10, 11, 12], [], [], [15], [], [17], [17, 18], [17, 18, 19], [17, 18, 19, 20], [], [0, 1, 2, 3, 4, 5, 6, 7, 8, 10, 11, 12, 13, 15, 16, 17, 18, 19, 20], [0, 1, 2, 3, 4, 5, 6, 7, 8, 10, 11, 12, 13, 15, 16, 17, 18, 19, 20, 23], [0, 1, 2, 3, 4, 5, 6, 7, 8, 9, 10, 11, 12, 13, 15, 16, 17, 18, 19, 20, 21, 23, 24], [0, 1, 2, 3, 4, 5, 6, 7, 8, 9, 10, 11, 12, 13, 15, 16, 17, 18, 19, 20, 21, 23, 24, 25], [0, 1, 2, 3, 4, 5, 6, 7, 8, 9, 10, 11, 12, 13, 14, 15, 16, 17, 18, 19, 20, 21, 22, 23, 24, 25, 26], [0, 1, 2, 3, 4, 5, 6, 7, 8, 9, 10, 11, 12, 13, 14, 15, 16, 17, 18, 19, 20, 21, 22, 23, 24, 25, 26, 27]] hmix (by kernel_rfl) [(9, _), (10, _), (11, _), (12, _), (13, _), (14, _), (15, _), (16, _), (17, _), (18, _), (19, _), (20, _), (21, _), (22, _), (23, _), (24, _), (26, _), (27, _), (28, _), (29, _), (30, _), (31, _)] rfl 4 rfl
  refine Stg.go [0, 1, 2, 3, 4, 5, 6, 7, 8, 9, 10, 11, 12, 13, 14, 15, 17, 18, 19, 20, 21, 22] [16] rfl rfl (QAll.cons (QOp.p hT rfl rfl rfl rfl rfl) (QAll.cons (QOp.q rfl rfl (Quiet1.nilChk rfl rfl hc0) rfl rfl) (QAll.cons (QOp.p hT rfl rfl rfl rfl rfl) (QAll.cons (QOp.q rfl rfl (Quiet1.load hT rfl rfl rfl hc1) rfl rfl) (QAll.cons (QOp.p hT rfl rfl rfl rfl rfl) (QAll.cons (QOp.p hT rfl rfl rfl rfl rfl) (QAll.cons (QOp.q rfl rfl (Quiet1.nilChk rfl rfl hc2) rfl rfl) (QAll.cons (QOp.p hT rfl rfl rfl rfl rfl) (QAll.cons (QOp.q rfl rfl (Quiet1.load hT rfl rfl rfl hc3) rfl rfl) (QAll.cons (QOp.p hT rfl rfl rfl rfl rfl) (QAll.cons (QOp.p hT rfl rfl rfl rfl rfl) (QAll.cons (QOp.q rfl rfl (Quiet1.nilChk rfl rfl hc4) rfl rfl) (QAll.cons (QOp.p hT rfl rfl rfl rfl rfl) (QAll.cons (QOp.q rfl rfl (Quiet1.load hT rfl rfl rfl hc5) rfl rfl) (QAll.cons (QOp.p hT rfl rfl rfl rfl rfl) (QAll.cons (QOp.p hT rfl rfl rfl rfl rfl) (QAll.cons (QOp.p hT rfl rfl rfl rfl rfl) (QAll.cons (QOp.q rfl rfl (Quiet1.nilChk rfl rfl hc6) rfl rfl) (QAll.cons (QOp.p hT rfl rfl rfl rfl rfl) (QAll.cons (QOp.q rfl rfl (Quiet1.load hT rfl rfl rfl hc7) rfl rfl) (QAll.cons (QOp.p hT rfl rfl rfl rfl rfl) (QAll.cons (QOp.p hT rfl rfl rfl rfl rfl) QAll.nil)))))))))))))))))))))) ?_
  refine EAll.cons ?_ EAll.nil
  refine EOp.e rfl rfl rfl (EffX.call (f := 57) (sh := fun h => clause_sign _ h _) (H0 := H) rfl Try.call57 rfl (hl := fun w m hr hw => lift_clause_sign _ w m hr _ hw)) ?_
  rintro _ _ ⟨v_5, h0u1, rfl, rfl, H⟩
  obtain ⟨hc8, H⟩ := H
  obtain ⟨hc9, H⟩ := H
  obtain ⟨hc10, H⟩ := H
  obtain ⟨hc11, H⟩ := H
  obtain ⟨a_4_, hc12, hd12, H⟩ := H
  apply Stg.next [(25, _), (32, _)] rfl rfl
  refine Stg.go [0, 1, 2, 3, 4, 5, 6, 7, 8, 9, 10, 11, 12, 13, 14, 17, 18, 19, 20, 21, 22, 23] [24] rfl rfl (QAll.cons (QOp.p hT rfl rfl rfl rfl rfl) (QAll.cons (QOp.q rfl rfl (Quiet1.nilChk rfl rfl hc0) rfl rfl) (QAll.cons (QOp.p hT rfl rfl rfl rfl rfl) (QAll.cons (QOp.q rfl rfl (Quiet1.load hT rfl rfl rfl hc8) rfl rfl) (QAll.cons (QOp.p hT rfl rfl rfl rfl rfl) (QAll.cons (QOp.p hT rfl rfl rfl rfl rfl) (QAll.cons (QOp.q rfl rfl (Quiet1.nilChk rfl rfl hc2) rfl rfl) (QAll.cons (QOp.p hT rfl rfl rfl rfl rfl) (QAll.cons (QOp.q rfl rfl (Quiet1.load hT rfl rfl rfl hc9) rfl rfl) (QAll.cons (QOp.p hT rfl rfl rfl rfl rfl) (QAll.cons (QOp.p hT rfl rfl rfl rfl rfl) (QAll.cons (QOp.q rfl rfl (Quiet1.nilChk rfl rfl hc4) rfl rfl) (QAll.cons (QOp.p hT rfl rfl rfl rfl rfl) (QAll.cons (QOp.q rfl rfl (Quiet1.load hT rfl rfl rfl hc10) rfl rfl) (QAll.cons (QOp.p hT rfl rfl rfl rfl rfl) (QAll.cons (QOp.p hT rfl rfl rfl rfl rfl) (QAll.cons (QOp.q rfl rfl (Quiet1.nilChk rfl rfl hc6) rfl rfl) (QAll.cons (QOp.p hT rfl rfl rfl rfl rfl) (QAll.cons (QOp.q rfl rfl (Quiet1.load hT rfl rfl rfl hc11) rfl rfl) (QAll.cons (QOp.p hT rfl rfl rfl rfl rfl) (QAll.cons (QOp.p hT rfl rfl rfl rfl rfl) (QAll.cons (QOp.q rfl rfl (Quiet1.idxS (s := _) hT rfl rfl rfl rfl rfl hc12 hd12) rfl rfl) QAll.nil)))))))))))))))))))))) ?_
  refine EAll.cons ?_ EAll.nil
  refine EOp.e rfl rfl rfl (EffX.store hT rfl rfl rfl rfl rfl H) ?_
  rintro _ _ ⟨h0u2, rfl, H⟩
  obtain ⟨a_5_, hc13, hd13, H⟩ := H
  apply Stg.next [(33, _)] rfl rfl
  refine Stg.go [9, 14, 21, 22, 25] [26] rfl rfl (QAll.cons (QOp.p hT rfl rfl rfl rfl rfl) (QAll.cons (QOp.p hT rfl rfl rfl rfl rfl) (QAll.cons (QOp.p hT rfl rfl rfl rfl rfl) (QAll.cons (QOp.p hT rfl rfl rfl rfl rfl) (QAll.cons (QOp.q rfl rfl (Quiet1.idxS (s := _) hT rfl rfl rfl rfl rfl hc13 hd13) rfl rfl) QAll.nil))))) ?_
  refine EAll.cons ?_ EAll.nil
  refine EOp.e rfl rfl rfl (EffX.store hT rfl rfl rfl rfl rfl H) ?_
  rintro _ _ ⟨h0u3, rfl, H⟩
  obtain ⟨a_6_, hc14, hd14, H⟩ := H
  apply Stg.next [(34, _)] rfl rfl
  refine Stg.go [14, 22, 27] [28] rfl rfl (QAll.cons (QOp.p hT rfl rfl rfl rfl rfl) (QAll.cons (QOp.p hT rfl rfl rfl rfl rfl) (QAll.cons (QOp.q rfl rfl (Quiet1.idxS (s := _) hT rfl rfl rfl rfl rfl hc14 hd14) rfl rfl) QAll.nil))) ?_
  refine EAll.cons ?_ EAll.nil
  refine EOp.e rfl rfl rfl (EffX.store hT rfl rfl rfl rfl rfl H) ?_
  rintro _ _ ⟨h0u4, rfl, H⟩
  apply Stg.next [] rfl rfl
  refine Stg.fin [] rfl rfl QAll.nil ?_
  refine AtE.then_n (AtE.go ?_)
  refine AtC.region ?_
  refine AtL.pures hT 2 _ _ _ _ rfl ?_
  obtain ⟨a_7, hc15, H⟩ := H
  refine AtL.q rfl (Quiet1.nilChk rfl rfl hc15) ?_
  refine AtL.pures hT 1 _ _ _ _ rfl ?_
  obtain ⟨v_6, hc16, H⟩ := H
  refine AtL.q rfl (Quiet1.load hT rfl rfl rfl hc16) ?_
  refine AtL.pures hT 1 _ _ _ _ rfl ?_
  refine AtLX.bs (hT := hT) (cs := [_]) H rfl rfl rfl rfl rfl rfl rfl rfl rfl (fun a_8 h0u5 H => ?_)
  refine AtL.e rfl (EffX.appendS (s := _) (u := _) hT rfl rfl rfl rfl rfl rfl rfl rfl rfl rfl (by decide) H) ?_
  rintro _ _ ⟨v_8, h0u6, rfl, rfl, H⟩
  obtain ⟨a_9, hc17, H⟩ := H
  refine AtL.q rfl (Quiet1.nilChk rfl rfl hc17) ?_
  refine AtL.pures hT 1 _ _ _ _ rfl ?_
  refine AtL.e rfl (EffX.store hT rfl rfl rfl rfl rfl H) ?_
  rintro _ _ ⟨h0u7, rfl, H⟩
  refine AtL.nil ?_
  exact AtE.endN rfl rfl H
end Go.Proofs.Ytkjcocjkcjmafaa

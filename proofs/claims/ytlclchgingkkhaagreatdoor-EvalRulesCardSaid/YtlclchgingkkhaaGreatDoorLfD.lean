/-
  Laws that the proof of this claim's statement leans on, each proved under the conditions that it states.
-/
import Derived.Test.YtlclchgingkkhaaGreatDoorLfC
set_option linter.unusedVariables false
set_option linter.unusedSimpArgs false
namespace Go.Proofs.YtlclchgingkkhaaGreatDoor
open Go Go.Lift Go.Sh
set_option maxRecDepth 100000
set_option maxHeartbeats 40000000
attribute [local irreducible] Calls AtL AtC AtE AtD Eff Quiet1 Stg qAt QAll eAt EAll nextK Code.wp
theorem lift_law10uEvalRules (p : Bool) (q : Bool) (x0 : Bool × Sl × Sl) (y : Bool × Sl × Sl) (w : World) (m : Heap) (hr : Rel ⟨m, []⟩ w.heap) (S : Bool → Heap → Prop) (H : law10uEvalRules p q x0 y m S) :
    Calls Tryz.prog 4 #[Value.bool p, Value.bool q, Value.agg (C_bool_sl_sl x0).toArray, Value.agg (C_bool_sl_sl y).toArray] w (Post ⟨w, m⟩ Value.bool S) := by
  refine Calls.lift (args := [Value.bool p, Value.bool q, Value.agg (C_bool_sl_sl x0).toArray, Value.agg (C_bool_sl_sl y).toArray]) Tryz.func4 rfl Tryz.ntmps4 (Nat.le_of_ble_eq_true rfl) hr (law10uEvalRules p q x0 y m S) H (fun H => ?_)
  refine AtC.pick (ts := [0, 1, 2, 3]) rfl ?_
  unfold law10uEvalRules at H
  refine AtC.seqR ?_
  refine AtL.e rfl (EffX.boxP (cs := [_, _, _]) rfl rfl rfl H) ?_
  rintro _ _ ⟨b, _, rfl, rfl, _, H⟩
  refine AtL.e rfl (EffX.boxP (cs := [_, _, _]) rfl rfl rfl H) ?_
  rintro _ _ ⟨b_1, _, rfl, rfl, _, H⟩
  replace H := H.self
  refine AtL.pures hT 1 _ _ _ _ rfl ?_
  refine AtL.nil ?_
  refine AtE.then_n (AtE.go ?_)
  refine AtC.seq ?_
  refine AtC.seqR ?_
  refine AtL.e rfl (EffX.call (f := 17) (sh := fun h => law10uspeaks h _) (H0 := H) rfl Tryz.call17 rfl (hl := fun w m hr hw => lift_law10uspeaks  w m hr _ hw)) ?_
  rintro _ _ ⟨v, h0u1, rfl, rfl, H⟩
  refine AtL.pures hT 1 _ _ _ _ rfl ?_
  refine AtL.nil ?_
  refine AtE.then_n (AtE.go ?_)
  refine AtC.condB H rfl (fun H => ?_) (fun H => ?_)
  ·
   refine AtC.seqR ?_
   refine AtL.pures hT 1 _ _ _ _ rfl ?_
   refine AtL.nil ?_
   refine AtE.then_n (AtE.go ?_)
   refine AtC.ret ?_
   refine AtE.then_r ?_
   exact AtE.retN (rs := [.tmp 8]) rfl (ResAll.cons (ResAt.tmp rfl) ResAll.nil) rfl H
  ·
   refine AtC.skip ?_
   refine AtE.then_n (AtE.go ?_)
   refine AtC.seq ?_
   refine AtC.joinSeq (β := Unit) (fun (t0 : Bool) (bb : Unit) => [(29, Value.bool t0)]) (fun (t0 : Bool) (bb : Unit) => []) [0, 1, 6, 7] [0, 1] H (by exact rfl) (by exact rfl) (fun t0 bb h0u2 H => ?_) (fun J1 H HK1 => ?_)
   ·
    refine AtC.condB H rfl (fun H => ?_) (fun H => ?_)
    ·
     refine AtC.seqR ?_
     refine AtL.pures hT 1 _ _ _ _ rfl ?_
     refine AtL.nil ?_
     refine AtE.then_n (AtE.go ?_)
     refine AtC.ret ?_
     refine AtE.then_r ?_
     exact AtE.retN (rs := [.tmp 8]) rfl (ResAll.cons (ResAt.tmp rfl) ResAll.nil) rfl H
    ·
     refine AtC.skip ?_
     refine AtE.then_n (AtE.go ?_)
     refine AtC.seqR ?_
     refine AtL.q rfl (Quiet1.build (cs := [_, _, _, _, _, _]) hT rfl rfl rfl rfl rfl rfl) ?_
     refine AtL.q rfl (Quiet1.build (cs := [_, _, _, _, _, _]) hT rfl rfl rfl rfl rfl rfl) ?_
     refine AtL.q rfl (Quiet1.build (cs := [_, _, _, _, _, _]) hT rfl rfl rfl rfl rfl rfl) ?_
     refine AtL.q rfl (Quiet1.build (cs := [_, _, _, _, _, _]) hT rfl rfl rfl rfl rfl rfl) ?_
     refine AtLX.bs (hT := hT) (cs := [Value.int .i64 3, Value.int .i64 0, Sl.toV Sl.nil, Value.bool false, Sl.toV Sl.nil, Sl.toV Sl.nil, Value.int .i64 3, Value.int .i64 1, Sl.toV Sl.nil, Value.bool false, Sl.toV Sl.nil, Sl.toV Sl.nil, Value.int .i64 4, Value.int .i64 0, Sl.toV Sl.nil, Value.bool false, Sl.toV Sl.nil, Sl.toV Sl.nil, Value.int .i64 4, Value.int .i64 1, Sl.toV Sl.nil, Value.bool false, Sl.toV Sl.nil, Sl.toV Sl.nil]) H rfl rfl rfl rfl rfl rfl rfl (by kernel_rfl) rfl (fun a_1 h0u7 H => ?_)
     refine AtL.e rfl (EffX.alloc hT rfl rfl H) ?_
     rintro _ _ ⟨l, h0u8, rfl, rfl, H⟩
     refine AtL.e rfl (EffX.store hT rfl rfl rfl rfl rfl H) ?_
     rintro _ _ ⟨h0u9, rfl, H⟩
     refine AtL.nil ?_
     refine AtE.then_n (AtE.go ?_)
     refine AtC.seqR ?_
     refine AtL.q rfl (Quiet1.makeFn (bs := []) (cs := [_]) rfl rfl rfl) ?_
     refine AtL.pures hT 1 _ _ _ _ rfl ?_
     refine AtL.nil ?_
     refine AtE.then_n (AtE.go ?_)
     refine AtC.seqR ?_
     refine AtL.pures hT 3 _ _ _ _ rfl ?_
     refine AtLX.bs (hT := hT) (cs := [_, _]) H rfl rfl rfl rfl rfl rfl rfl rfl rfl (fun a_2 h0u10 H => ?_)
     refine AtL.e rfl (EffX.callF (bs := []) (cs := [_]) (f := 20) (sh := fun h => law10uEvalRules_c1 _ _ _ h _) (H0 := H) rfl rfl Tryz.call20 rfl (hl := fun w m hr hw => lift_law10uEvalRules_c1 _ _ _ w m hr _ hw)) ?_
     rintro _ _ ⟨v_7, h0u11, rfl, rfl, H⟩
     refine AtLX.bs (hT := hT) (cs := [_]) H rfl rfl rfl rfl rfl rfl rfl rfl rfl (fun a_3 h0u12 H => ?_)
     refine AtL.e rfl (EffX.callF (bs := []) (cs := [_]) (f := 20) (sh := fun h => law10uEvalRules_c1 _ _ _ h _) (H0 := H) rfl rfl Tryz.call20 rfl (hl := fun w m hr hw => lift_law10uEvalRules_c1 _ _ _ w m hr _ hw)) ?_
     rintro _ _ ⟨v_9, h0u13, rfl, rfl, H⟩
     refine AtL.pures hT 2 _ _ _ _ rfl ?_
     refine AtLX.bs (hT := hT) (cs := [_]) H rfl rfl rfl rfl rfl rfl rfl rfl rfl (fun a_4 h0u14 H => ?_)
     refine AtL.e rfl (EffX.callF (bs := []) (cs := [_]) (f := 20) (sh := fun h => law10uEvalRules_c1 _ _ _ h _) (H0 := H) rfl rfl Tryz.call20 rfl (hl := fun w m hr hw => lift_law10uEvalRules_c1 _ _ _ w m hr _ hw)) ?_
     rintro _ _ ⟨v_11, h0u15, rfl, rfl, H⟩
     refine AtL.pures hT 1 _ _ _ _ rfl ?_
     refine AtLX.bs (hT := hT) (cs := [_]) H rfl rfl rfl rfl rfl rfl rfl rfl rfl (fun a_5 h0u16 H => ?_)
     refine AtL.e rfl (EffX.callF (bs := []) (cs := [_]) (f := 20) (sh := fun h => law10uEvalRules_c1 _ _ _ h _) (H0 := H) rfl rfl Tryz.call20 rfl (hl := fun w m hr hw => lift_law10uEvalRules_c1 _ _ _ w m hr _ hw)) ?_
     rintro _ _ ⟨v_13, h0u17, rfl, rfl, H⟩
     refine AtLX.bs (hT := hT) (cs := [_, _]) H rfl rfl rfl rfl rfl rfl rfl rfl rfl (fun a_6 h0u18 H => ?_)
     refine AtL.e rfl (EffX.callF (bs := []) (cs := [_]) (f := 20) (sh := fun h => law10uEvalRules_c1 _ _ _ h _) (H0 := H) rfl rfl Tryz.call20 rfl (hl := fun w m hr hw => lift_law10uEvalRules_c1 _ _ _ w m hr _ hw)) ?_
     rintro _ _ ⟨v_15, h0u19, rfl, rfl, H⟩
     refine AtLX.bs (hT := hT) (cs := [_, _]) H rfl rfl rfl rfl rfl rfl rfl rfl rfl (fun a_7 h0u20 H => ?_)
     refine AtL.e rfl (EffX.callF (bs := []) (cs := [_]) (f := 20) (sh := fun h => law10uEvalRules_c1 _ _ _ h _) (H0 := H) rfl rfl Tryz.call20 rfl (hl := fun w m hr hw => lift_law10uEvalRules_c1 _ _ _ w m hr _ hw)) ?_
     rintro _ _ ⟨v_17, h0u21, rfl, rfl, H⟩
     refine AtL.pures hT 2 _ _ _ _ rfl ?_
     refine AtLX.bs (hT := hT) (cs := [_, _]) H rfl rfl rfl rfl rfl rfl rfl rfl rfl (fun a_8 h0u22 H => ?_)
     refine AtL.e rfl (EffX.callF (bs := []) (cs := [_]) (f := 20) (sh := fun h => law10uEvalRules_c1 _ _ _ h _) (H0 := H) rfl rfl Tryz.call20 rfl (hl := fun w m hr hw => lift_law10uEvalRules_c1 _ _ _ w m hr _ hw)) ?_
     rintro _ _ ⟨v_19, h0u23, rfl, rfl, H⟩
     refine AtL.pures hT 2 _ _ _ _ rfl ?_
     refine AtLX.bs (hT := hT) (cs := [_]) H rfl rfl rfl rfl rfl rfl rfl rfl rfl (fun a_9 h0u24 H => ?_)
     refine AtL.e rfl (EffX.callF (bs := []) (cs := [_]) (f := 20) (sh := fun h => law10uEvalRules_c1 _ _ _ h _) (H0 := H) rfl rfl Tryz.call20 rfl (hl := fun w m hr hw => lift_law10uEvalRules_c1 _ _ _ w m hr _ hw)) ?_
     rintro _ _ ⟨v_21, h0u25, rfl, rfl, H⟩
     refine AtLX.bs (hT := hT) (cs := [_, _]) H rfl rfl rfl rfl rfl rfl rfl rfl rfl (fun a_10 h0u26 H => ?_)
     refine AtL.e rfl (EffX.callF (bs := []) (cs := [_]) (f := 20) (sh := fun h => law10uEvalRules_c1 _ _ _ h _) (H0 := H) rfl rfl Tryz.call20 rfl (hl := fun w m hr hw => lift_law10uEvalRules_c1 _ _ _ w m hr _ hw)) ?_
     rintro _ _ ⟨v_23, h0u27, rfl, rfl, H⟩
     refine AtLX.bs (hT := hT) (cs := [_, _]) H rfl rfl rfl rfl rfl rfl rfl rfl rfl (fun a_11 h0u28 H => ?_)
     refine AtL.e rfl (EffX.callF (bs := []) (cs := [_]) (f := 20) (sh := fun h => law10uEvalRules_c1 _ _ _ h _) (H0 := H) rfl rfl Tryz.call20 rfl (hl := fun w m hr hw => lift_law10uEvalRules_c1 _ _ _ w m hr _ hw)) ?_
     rintro _ _ ⟨v_25, h0u29, rfl, rfl, H⟩
     refine AtL.pures hT 2 _ _ _ _ rfl ?_
     refine AtLX.bs (hT := hT) (cs := [_, _]) H rfl rfl rfl rfl rfl rfl rfl rfl rfl (fun a_12 h0u30 H => ?_)
     refine AtL.e rfl (EffX.callF (bs := []) (cs := [_]) (f := 20) (sh := fun h => law10uEvalRules_c1 _ _ _ h _) (H0 := H) rfl rfl Tryz.call20 rfl (hl := fun w m hr hw => lift_law10uEvalRules_c1 _ _ _ w m hr _ hw)) ?_
     rintro _ _ ⟨v_27, h0u31, rfl, rfl, H⟩
     refine AtL.pures hT 1 _ _ _ _ rfl ?_
     refine AtLX.bs (hT := hT) (cs := [_, _]) H rfl rfl rfl rfl rfl rfl rfl rfl rfl (fun a_13 h0u32 H => ?_)
     refine AtL.e rfl (EffX.callF (bs := []) (cs := [_]) (f := 20) (sh := fun h => law10uEvalRules_c1 _ _ _ h _) (H0 := H) rfl rfl Tryz.call20 rfl (hl := fun w m hr hw => lift_law10uEvalRules_c1 _ _ _ w m hr _ hw)) ?_
     rintro _ _ ⟨v_29, h0u33, rfl, rfl, H⟩
     refine AtLX.bs (hT := hT) (cs := [_, _]) H rfl rfl rfl rfl rfl rfl rfl rfl rfl (fun a_14 h0u34 H => ?_)
     refine AtL.e rfl (EffX.callF (bs := []) (cs := [_]) (f := 20) (sh := fun h => law10uEvalRules_c1 _ _ _ h _) (H0 := H) rfl rfl Tryz.call20 rfl (hl := fun w m hr hw => lift_law10uEvalRules_c1 _ _ _ w m hr _ hw)) ?_
     rintro _ _ ⟨v_31, h0u35, rfl, rfl, H⟩
     refine AtL.pures hT 2 _ _ _ _ rfl ?_
     refine AtLX.bs (hT := hT) (cs := [_, _]) H rfl rfl rfl rfl rfl rfl rfl rfl rfl (fun a_15 h0u36 H => ?_)
     refine AtL.e rfl (EffX.callF (bs := []) (cs := [_]) (f := 20) (sh := fun h => law10uEvalRules_c1 _ _ _ h _) (H0 := H) rfl rfl Tryz.call20 rfl (hl := fun w m hr hw => lift_law10uEvalRules_c1 _ _ _ w m hr _ hw)) ?_
     rintro _ _ ⟨v_33, h0u37, rfl, rfl, H⟩
     refine AtL.pures hT 2 _ _ _ _ rfl ?_
     refine AtLX.bs (hT := hT) (cs := [_, _]) H rfl rfl rfl rfl rfl rfl rfl rfl rfl (fun a_16 h0u38 H => ?_)
     refine AtL.e rfl (EffX.callF (bs := []) (cs := [_]) (f := 20) (sh := fun h => law10uEvalRules_c1 _ _ _ h _) (H0 := H) rfl rfl Tryz.call20 rfl (hl := fun w m hr hw => lift_law10uEvalRules_c1 _ _ _ w m hr _ hw)) ?_
     rintro _ _ ⟨v_35, h0u39, rfl, rfl, H⟩
     refine AtLX.bs (hT := hT) (cs := [_]) H rfl rfl rfl rfl rfl rfl rfl rfl rfl (fun a_17 h0u40 H => ?_)
     refine AtL.e rfl (EffX.callF (bs := []) (cs := [_]) (f := 20) (sh := fun h => law10uEvalRules_c1 _ _ _ h _) (H0 := H) rfl rfl Tryz.call20 rfl (hl := fun w m hr hw => lift_law10uEvalRules_c1 _ _ _ w m hr _ hw)) ?_
     rintro _ _ ⟨v_37, h0u41, rfl, rfl, H⟩
     refine AtLX.bs (hT := hT) (cs := [_, _]) H rfl rfl rfl rfl rfl rfl rfl rfl rfl (fun a_18 h0u42 H => ?_)
     refine AtL.e rfl (EffX.callF (bs := []) (cs := [_]) (f := 20) (sh := fun h => law10uEvalRules_c1 _ _ _ h _) (H0 := H) rfl rfl Tryz.call20 rfl (hl := fun w m hr hw => lift_law10uEvalRules_c1 _ _ _ w m hr _ hw)) ?_
     rintro _ _ ⟨v_39, h0u43, rfl, rfl, H⟩
     refine AtL.pures hT 2 _ _ _ _ rfl ?_
     refine AtLX.bs (hT := hT) (cs := [_, _]) H rfl rfl rfl rfl rfl rfl rfl rfl rfl (fun a_19 h0u44 H => ?_)
     refine AtL.e rfl (EffX.callF (bs := []) (cs := [_]) (f := 20) (sh := fun h => law10uEvalRules_c1 _ _ _ h _) (H0 := H) rfl rfl Tryz.call20 rfl (hl := fun w m hr hw => lift_law10uEvalRules_c1 _ _ _ w m hr _ hw)) ?_
     rintro _ _ ⟨v_41, h0u45, rfl, rfl, H⟩
     refine AtL.pures hT 2 _ _ _ _ rfl ?_
     refine AtLX.bs (hT := hT) (cs := [_, _]) H rfl rfl rfl rfl rfl rfl rfl rfl rfl (fun a_20 h0u46 H => ?_)
     refine AtL.e rfl (EffX.callF (bs := []) (cs := [_]) (f := 20) (sh := fun h => law10uEvalRules_c1 _ _ _ h _) (H0 := H) rfl rfl Tryz.call20 rfl (hl := fun w m hr hw => lift_law10uEvalRules_c1 _ _ _ w m hr _ hw)) ?_
     rintro _ _ ⟨v_43, h0u47, rfl, rfl, H⟩
     refine AtLX.bs (hT := hT) (cs := [_]) H rfl rfl rfl rfl rfl rfl rfl rfl rfl (fun a_21 h0u48 H => ?_)
     refine AtL.e rfl (EffX.callF (bs := []) (cs := [_]) (f := 20) (sh := fun h => law10uEvalRules_c1 _ _ _ h _) (H0 := H) rfl rfl Tryz.call20 rfl (hl := fun w m hr hw => lift_law10uEvalRules_c1 _ _ _ w m hr _ hw)) ?_
     rintro _ _ ⟨v_45, h0u49, rfl, rfl, H⟩
     refine AtLX.bs (hT := hT) (cs := [_, _]) H rfl rfl rfl rfl rfl rfl rfl rfl rfl (fun a_22 h0u50 H => ?_)
     refine AtL.e rfl (EffX.callF (bs := []) (cs := [_]) (f := 20) (sh := fun h => law10uEvalRules_c1 _ _ _ h _) (H0 := H) rfl rfl Tryz.call20 rfl (hl := fun w m hr hw => lift_law10uEvalRules_c1 _ _ _ w m hr _ hw)) ?_
     rintro _ _ ⟨v_47, h0u51, rfl, rfl, H⟩
     refine AtL.pures hT 2 _ _ _ _ rfl ?_
     refine AtLX.bs (hT := hT) (cs := [_, _]) H rfl rfl rfl rfl rfl rfl rfl rfl rfl (fun a_23 h0u52 H => ?_)
     refine AtL.e rfl (EffX.callF (bs := []) (cs := [_]) (f := 20) (sh := fun h => law10uEvalRules_c1 _ _ _ h _) (H0 := H) rfl rfl Tryz.call20 rfl (hl := fun w m hr hw => lift_law10uEvalRules_c1 _ _ _ w m hr _ hw)) ?_
     rintro _ _ ⟨v_49, h0u53, rfl, rfl, H⟩
     refine AtL.pures hT 1 _ _ _ _ rfl ?_
     refine AtLX.bs (hT := hT) (cs := [_, _]) H rfl rfl rfl rfl rfl rfl rfl rfl rfl (fun a_24 h0u54 H => ?_)
     refine AtL.e rfl (EffX.callF (bs := []) (cs := [_]) (f := 20) (sh := fun h => law10uEvalRules_c1 _ _ _ h _) (H0 := H) rfl rfl Tryz.call20 rfl (hl := fun w m hr hw => lift_law10uEvalRules_c1 _ _ _ w m hr _ hw)) ?_
     rintro _ _ ⟨v_51, h0u55, rfl, rfl, H⟩
     refine AtLX.bs (hT := hT) (cs := [_, _]) H rfl rfl rfl rfl rfl rfl rfl rfl rfl (fun a_25 h0u56 H => ?_)
     refine AtL.e rfl (EffX.callF (bs := []) (cs := [_]) (f := 20) (sh := fun h => law10uEvalRules_c1 _ _ _ h _) (H0 := H) rfl rfl Tryz.call20 rfl (hl := fun w m hr hw => lift_law10uEvalRules_c1 _ _ _ w m hr _ hw)) ?_
     rintro _ _ ⟨v_53, h0u57, rfl, rfl, H⟩
     refine AtL.pures hT 3 _ _ _ _ rfl ?_
     refine AtLX.bs (hT := hT) (cs := [_, _]) H rfl rfl rfl rfl rfl rfl rfl rfl rfl (fun a_26 h0u58 H => ?_)
     refine AtL.e rfl (EffX.callF (bs := []) (cs := [_]) (f := 20) (sh := fun h => law10uEvalRules_c1 _ _ _ h _) (H0 := H) rfl rfl Tryz.call20 rfl (hl := fun w m hr hw => lift_law10uEvalRules_c1 _ _ _ w m hr _ hw)) ?_
     rintro _ _ ⟨v_55, h0u59, rfl, rfl, H⟩
     refine AtLX.bs (hT := hT) (cs := [_, _]) H rfl rfl rfl rfl rfl rfl rfl rfl rfl (fun a_27 h0u60 H => ?_)
     refine AtL.e rfl (EffX.callF (bs := []) (cs := [_]) (f := 20) (sh := fun h => law10uEvalRules_c1 _ _ _ h _) (H0 := H) rfl rfl Tryz.call20 rfl (hl := fun w m hr hw => lift_law10uEvalRules_c1 _ _ _ w m hr _ hw)) ?_
     rintro _ _ ⟨v_57, h0u61, rfl, rfl, H⟩
     refine AtLX.bs (hT := hT) (cs := [_, _]) H rfl rfl rfl rfl rfl rfl rfl rfl rfl (fun a_28 h0u62 H => ?_)
     refine AtL.e rfl (EffX.callF (bs := []) (cs := [_]) (f := 20) (sh := fun h => law10uEvalRules_c1 _ _ _ h _) (H0 := H) rfl rfl Tryz.call20 rfl (hl := fun w m hr hw => lift_law10uEvalRules_c1 _ _ _ w m hr _ hw)) ?_
     rintro _ _ ⟨v_59, h0u63, rfl, rfl, H⟩
     refine AtL.pures hT 2 _ _ _ _ rfl ?_
     refine AtLX.bs (hT := hT) (cs := [_, _, _]) H rfl rfl rfl rfl rfl rfl rfl rfl rfl (fun a_29 h0u64 H => ?_)
     refine AtL.e rfl (EffX.callF (bs := []) (cs := [_]) (f := 20) (sh := fun h => law10uEvalRules_c1 _ _ _ h _) (H0 := H) rfl rfl Tryz.call20 rfl (hl := fun w m hr hw => lift_law10uEvalRules_c1 _ _ _ w m hr _ hw)) ?_
     rintro _ _ ⟨v_61, h0u65, rfl, rfl, H⟩
     refine AtL.pures hT 2 _ _ _ _ rfl ?_
     refine AtLX.bs (hT := hT) (cs := [_]) H rfl rfl rfl rfl rfl rfl rfl rfl rfl (fun a_30 h0u66 H => ?_)
     refine AtL.e rfl (EffX.callF (bs := []) (cs := [_]) (f := 20) (sh := fun h => law10uEvalRules_c1 _ _ _ h _) (H0 := H) rfl rfl Tryz.call20 rfl (hl := fun w m hr hw => lift_law10uEvalRules_c1 _ _ _ w m hr _ hw)) ?_
     rintro _ _ ⟨v_63, h0u67, rfl, rfl, H⟩
     refine AtLX.bs (hT := hT) (cs := [_, _, _]) H rfl rfl rfl rfl rfl rfl rfl rfl rfl (fun a_31 h0u68 H => ?_)
     refine AtL.e rfl (EffX.callF (bs := []) (cs := [_]) (f := 20) (sh := fun h => law10uEvalRules_c1 _ _ _ h _) (H0 := H) rfl rfl Tryz.call20 rfl (hl := fun w m hr hw => lift_law10uEvalRules_c1 _ _ _ w m hr _ hw)) ?_
     rintro _ _ ⟨v_65, h0u69, rfl, rfl, H⟩
     refine AtLX.bs (hT := hT) (cs := [_, _]) H rfl rfl rfl rfl rfl rfl rfl rfl rfl (fun a_32 h0u70 H => ?_)
     refine AtL.e rfl (EffX.callF (bs := []) (cs := [_]) (f := 20) (sh := fun h => law10uEvalRules_c1 _ _ _ h _) (H0 := H) rfl rfl Tryz.call20 rfl (hl := fun w m hr hw => lift_law10uEvalRules_c1 _ _ _ w m hr _ hw)) ?_
     rintro _ _ ⟨v_67, h0u71, rfl, rfl, H⟩
     refine AtLX.bs (hT := hT) (cs := [_, _, _, _, _, _, _, _]) H rfl rfl rfl rfl rfl rfl rfl rfl rfl (fun a_33 h0u72 H => ?_)
     refine AtL.pures hT 1 _ _ _ _ rfl ?_
     replace H := H _ rfl
     refine AtL.nil ?_
     refine AtE.then_n (AtE.go ?_)
     refine AtC.joinSeq (β := Unit) (fun (t0u1 : Bool × Int) (bb_1 : Unit) => [(12, Value.bool t0u1.1), (13, Value.int .i64 t0u1.2)]) (fun (t0u1 : Bool × Int) (bb_1 : Unit) => []) [] [] H (by exact rfl) (by exact rfl) (fun t0u1 bb_1 h0u73 H => ?_) (fun J2 H HK2 => ?_)
     ·
      refine AtC.joinSeq (β := Unit) (fun (t0u2 : Bool) (bb_2 : Unit) => [(8, Value.bool t0u2)]) (fun (t0u2 : Bool) (bb_2 : Unit) => []) [] [] H (by exact rfl) (by exact rfl) (fun t0u2 bb_2 h0u95 H => ?_) (fun J19 H HK19 => ?_)
      ·
       refine AtC.ret ?_
       exact AtE.retN (rs := [.tmp 8]) rfl (ResAll.cons (ResAt.tmp rfl) ResAll.nil) rfl H
      ·
       refine AtC.region ?_
       refine AtL.pures hT 2 _ _ _ _ rfl ?_
       refine AtL.splitB (t := 145) H rfl (fun H => ?_) (fun H => ?_)
       ·
        refine AtL.yes rfl rfl rfl ?_
        refine AtL.pures hT 1 _ _ _ _ rfl ?_
        refine AtL.yes rfl rfl rfl ?_
        refine AtL.pures hT 1 _ _ _ _ rfl ?_
        refine AtL.pures hT 2 _ _ _ _ rfl ?_
        refine AtL.nil ?_
        exact AtE.then_n ((HK19 _ () _ H).pickP (ts := [8]) (is := []) rfl rfl (by decide) rfl)
       ·
        refine AtL.noF rfl rfl rfl (by decide) rfl ?_
        refine AtL.noF rfl rfl rfl (by decide) rfl ?_
        refine AtL.pures hT 2 _ _ _ _ rfl ?_
        refine AtL.nil ?_
        exact AtE.then_n ((HK19 _ () _ H).pickP (ts := [8]) (is := []) rfl rfl (by decide) rfl)
     ·
      obtain ⟨v_69, hc2, H⟩ := H
      apply AtC.stages [0, 6, 9, 10] [[], [], [], [], [], [], [], [], [], [], [0, 6, 9], [0, 6, 9, 10], [0, 6, 9, 10], [0, 6, 9, 10], [0, 6, 9, 10], [0, 6, 9, 10]] [[], [], [], [1, 2], [], [], [4, 5], [], [], [7, 8], [0, 1, 2, 3, 4, 5, 6, 7, 8, 9], [0, 1, 2, 3, 4, 5, 6, 7, 8, 9, 10], [0, 1, 2, 3, 4, 5, 6, 7, 8, 9, 10, 11], [0, 1, 2, 3, 4, 5, 6, 7, 8, 9, 10, 11], [0, 1, 2, 3, 4, 5, 6, 7, 8, 9, 10, 11, 12], [0, 1, 2, 3, 4, 5, 6, 7, 8, 9, 10, 11, 12, 13, 14]] hmix (by kernel_rfl) [(132, _), (133, _), (134, _), (135, _), (136, _), (138, _), (139, _)] rfl 4 rfl
      refine Stg.go [1, 2, 3, 4, 5, 7, 8] [0, 6, 9] rfl rfl (QAll.cons (QOp.q rfl rfl (Quiet1.load hT rfl rfl rfl hc2) rfl rfl) (QAll.cons (QOp.p hT rfl rfl rfl rfl rfl) (QAll.cons (QOp.q rfl rfl (Quiet1.build (cs := [_, _, _, _, _, _]) hT rfl rfl rfl rfl rfl rfl) rfl rfl) (QAll.cons (QOp.p hT rfl rfl rfl rfl rfl) (QAll.cons (QOp.p hT rfl rfl rfl rfl rfl) (QAll.cons (QOp.q rfl rfl (Quiet1.loadSP (i := 1) (l := [_, _, _]) hT rfl rfl rfl rfl rfl rfl rfl rfl) rfl rfl) (QAll.cons (QOp.q rfl rfl (Quiet1.loadSP (i := 0) (l := [_, _, _]) hT rfl rfl rfl rfl rfl rfl rfl rfl) rfl rfl) QAll.nil))))))) ?_
      refine EAll.cons ?_ ?_
      ·
       replace H := H.1
       refine EOp.e rfl rfl rfl (EffX.call (f := 8) (sh := fun h => nat_New _ h _) (H0 := H) rfl Tryz.call8 rfl (hl := fun w m hr hw => lift_nat_New _ w m hr _ hw)) ?_
       rintro _ _ ⟨v_70, h0u74, rfl, rfl, H⟩
       obtain ⟨hc3, H⟩ := H
       apply Stg.next [(131, _)] rfl rfl
       refine Stg.go [1, 2, 3, 4, 5, 7, 8] [6, 9] rfl rfl (QAll.cons (QOp.q rfl rfl (Quiet1.load hT rfl rfl rfl hc3) rfl rfl) (QAll.cons (QOp.p hT rfl rfl rfl rfl rfl) (QAll.cons (QOp.q rfl rfl (Quiet1.build (cs := [_, _, _, _, _, _]) hT rfl rfl rfl rfl rfl rfl) rfl rfl) (QAll.cons (QOp.p hT rfl rfl rfl rfl rfl) (QAll.cons (QOp.p hT rfl rfl rfl rfl rfl) (QAll.cons (QOp.q rfl rfl (Quiet1.loadSP (i := 1) (l := [_, _, _]) hT rfl rfl rfl rfl rfl rfl rfl rfl) rfl rfl) (QAll.cons (QOp.q rfl rfl (Quiet1.loadSP (i := 0) (l := [_, _, _]) hT rfl rfl rfl rfl rfl rfl rfl rfl) rfl rfl) QAll.nil))))))) ?_
       refine EAll.cons ?_ ?_
       ·
        replace H := H.1
        refine EOp.e rfl rfl rfl (EffX.buildS2 (cs := [_, _]) hT rfl rfl rfl rfl rfl rfl rfl rfl H) ?_
        rintro _ _ ⟨a_34, h0u75, rfl, rfl, H⟩
        obtain ⟨hc4, H⟩ := H
        apply Stg.next [(137, _)] rfl rfl
        refine Stg.go [1, 2, 3, 7, 8] [9] rfl rfl (QAll.cons (QOp.q rfl rfl (Quiet1.load hT rfl rfl rfl hc4) rfl rfl) (QAll.cons (QOp.p hT rfl rfl rfl rfl rfl) (QAll.cons (QOp.q rfl rfl (Quiet1.build (cs := [_, _, _, _, _, _]) hT rfl rfl rfl rfl rfl rfl) rfl rfl) (QAll.cons (QOp.q rfl rfl (Quiet1.loadSP (i := 1) (l := [_, _, _]) hT rfl rfl rfl rfl rfl rfl rfl rfl) rfl rfl) (QAll.cons (QOp.q rfl rfl (Quiet1.loadSP (i := 0) (l := [_, _, _]) hT rfl rfl rfl rfl rfl rfl rfl rfl) rfl rfl) QAll.nil))))) ?_
        refine EAll.cons ?_ EAll.nil
        refine EOp.e rfl rfl rfl (EffX.buildS2 (cs := [_, _, _, _, _, _]) hT rfl rfl rfl rfl rfl rfl rfl rfl H) ?_
        rintro _ _ ⟨a_35, h0u76, rfl, rfl, H⟩
        obtain ⟨hc5, H⟩ := H
        apply Stg.next [(140, _)] rfl rfl
        refine Stg.go [1, 2, 3] [10] rfl rfl (QAll.cons (QOp.q rfl rfl (Quiet1.load hT rfl rfl rfl hc5) rfl rfl) (QAll.cons (QOp.p hT rfl rfl rfl rfl rfl) (QAll.cons (QOp.q rfl rfl (Quiet1.build (cs := [_, _, _, _, _, _]) hT rfl rfl rfl rfl rfl rfl) rfl rfl) QAll.nil))) ?_
        refine EAll.cons ?_ EAll.nil
        refine EOp.e rfl rfl rfl (EffX.call (f := 21) (sh := fun h => eval_True _ _ _ _ h _) (H0 := H) rfl Tryz.call21 rfl (hl := fun w m hr hw => lift_eval_True _ _ _ _ w m hr _ hw)) ?_
        rintro _ _ ⟨v_73, h0u77, rfl, rfl, H⟩
        apply Stg.next [(141, _), (130, _), (142, _), (143, _), (12, _), (13, _)] rfl rfl
        refine Stg.fin [11, 12, 13, 14, 15] rfl rfl (QAll.cons (QOp.p hT rfl rfl rfl rfl rfl) (QAll.cons (QOp.p hT rfl rfl rfl rfl rfl) (QAll.cons (QOp.p hT rfl rfl rfl rfl rfl) (QAll.cons (QOp.p hT rfl rfl rfl rfl rfl) (QAll.cons (QOp.p hT rfl rfl rfl rfl rfl) QAll.nil))))) ?_
        exact AtE.then_n ((HK2 _ () _ H).pickP (ts := [12, 13]) (is := []) rfl rfl (by decide) rfl)
       refine EAll.cons ?_ EAll.nil
       replace H := H.2
       refine EOp.e rfl rfl rfl (EffX.buildS2 (cs := [_, _, _, _, _, _]) hT rfl rfl rfl rfl rfl rfl rfl rfl H) ?_
       rintro _ _ ⟨a_36, h0u78, rfl, rfl, H⟩
       obtain ⟨hc6, H⟩ := H
       apply Stg.next [(140, _)] rfl rfl
       refine Stg.go [1, 2, 3, 4, 5] [6] rfl rfl (QAll.cons (QOp.q rfl rfl (Quiet1.load hT rfl rfl rfl hc6) rfl rfl) (QAll.cons (QOp.p hT rfl rfl rfl rfl rfl) (QAll.cons (QOp.q rfl rfl (Quiet1.build (cs := [_, _, _, _, _, _]) hT rfl rfl rfl rfl rfl rfl) rfl rfl) (QAll.cons (QOp.p hT rfl rfl rfl rfl rfl) (QAll.cons (QOp.p hT rfl rfl rfl rfl rfl) QAll.nil))))) ?_
       refine EAll.cons ?_ EAll.nil
       refine EOp.e rfl rfl rfl (EffX.buildS2 (cs := [_, _]) hT rfl rfl rfl rfl rfl rfl rfl rfl H) ?_
       rintro _ _ ⟨a_37, h0u79, rfl, rfl, H⟩
       obtain ⟨hc7, H⟩ := H
       apply Stg.next [(137, _)] rfl rfl
       refine Stg.go [1, 2, 3] [10] rfl rfl (QAll.cons (QOp.q rfl rfl (Quiet1.load hT rfl rfl rfl hc7) rfl rfl) (QAll.cons (QOp.p hT rfl rfl rfl rfl rfl) (QAll.cons (QOp.q rfl rfl (Quiet1.build (cs := [_, _, _, _, _, _]) hT rfl rfl rfl rfl rfl rfl) rfl rfl) QAll.nil))) ?_
       refine EAll.cons ?_ EAll.nil
       refine EOp.e rfl rfl rfl (EffX.call (f := 21) (sh := fun h => eval_True _ _ _ _ h _) (H0 := H) rfl Tryz.call21 rfl (hl := fun w m hr hw => lift_eval_True _ _ _ _ w m hr _ hw)) ?_
       rintro _ _ ⟨v_76, h0u80, rfl, rfl, H⟩
       apply Stg.next [(141, _), (130, _), (142, _), (143, _), (12, _), (13, _)] rfl rfl
       refine Stg.fin [11, 12, 13, 14, 15] rfl rfl (QAll.cons (QOp.p hT rfl rfl rfl rfl rfl) (QAll.cons (QOp.p hT rfl rfl rfl rfl rfl) (QAll.cons (QOp.p hT rfl rfl rfl rfl rfl) (QAll.cons (QOp.p hT rfl rfl rfl rfl rfl) (QAll.cons (QOp.p hT rfl rfl rfl rfl rfl) QAll.nil))))) ?_
       exact AtE.then_n ((HK2 _ () _ H).pickP (ts := [12, 13]) (is := []) rfl rfl (by decide) rfl)
      refine EAll.cons ?_ ?_
      ·
       replace H := H.2.1
       refine EOp.e rfl rfl rfl (EffX.buildS2 (cs := [_, _]) hT rfl rfl rfl rfl rfl rfl rfl rfl H) ?_
       rintro _ _ ⟨a_38, h0u81, rfl, rfl, H⟩
       obtain ⟨hc8, H⟩ := H
       apply Stg.next [(137, _)] rfl rfl
       refine Stg.go [1, 2, 3, 7, 8] [0, 9] rfl rfl (QAll.cons (QOp.q rfl rfl (Quiet1.load hT rfl rfl rfl hc8) rfl rfl) (QAll.cons (QOp.p hT rfl rfl rfl rfl rfl) (QAll.cons (QOp.q rfl rfl (Quiet1.build (cs := [_, _, _, _, _, _]) hT rfl rfl rfl rfl rfl rfl) rfl rfl) (QAll.cons (QOp.q rfl rfl (Quiet1.loadSP (i := 1) (l := [_, _, _]) hT rfl rfl rfl rfl rfl rfl rfl rfl) rfl rfl) (QAll.cons (QOp.q rfl rfl (Quiet1.loadSP (i := 0) (l := [_, _, _]) hT rfl rfl rfl rfl rfl rfl rfl rfl) rfl rfl) QAll.nil))))) ?_
       refine EAll.cons ?_ ?_
       ·
        replace H := H.1
        refine EOp.e rfl rfl rfl (EffX.call (f := 8) (sh := fun h => nat_New _ h _) (H0 := H) rfl Tryz.call8 rfl (hl := fun w m hr hw => lift_nat_New _ w m hr _ hw)) ?_
        rintro _ _ ⟨v_78, h0u82, rfl, rfl, H⟩
        obtain ⟨hc9, H⟩ := H
        apply Stg.next [(131, _)] rfl rfl
        refine Stg.go [1, 2, 3, 7, 8] [9] rfl rfl (QAll.cons (QOp.q rfl rfl (Quiet1.load hT rfl rfl rfl hc9) rfl rfl) (QAll.cons (QOp.p hT rfl rfl rfl rfl rfl) (QAll.cons (QOp.q rfl rfl (Quiet1.build (cs := [_, _, _, _, _, _]) hT rfl rfl rfl rfl rfl rfl) rfl rfl) (QAll.cons (QOp.q rfl rfl (Quiet1.loadSP (i := 1) (l := [_, _, _]) hT rfl rfl rfl rfl rfl rfl rfl rfl) rfl rfl) (QAll.cons (QOp.q rfl rfl (Quiet1.loadSP (i := 0) (l := [_, _, _]) hT rfl rfl rfl rfl rfl rfl rfl rfl) rfl rfl) QAll.nil))))) ?_
        refine EAll.cons ?_ EAll.nil
        refine EOp.e rfl rfl rfl (EffX.buildS2 (cs := [_, _, _, _, _, _]) hT rfl rfl rfl rfl rfl rfl rfl rfl H) ?_
        rintro _ _ ⟨a_39, h0u83, rfl, rfl, H⟩
        obtain ⟨hc10, H⟩ := H
        apply Stg.next [(140, _)] rfl rfl
        refine Stg.go [1, 2, 3] [10] rfl rfl (QAll.cons (QOp.q rfl rfl (Quiet1.load hT rfl rfl rfl hc10) rfl rfl) (QAll.cons (QOp.p hT rfl rfl rfl rfl rfl) (QAll.cons (QOp.q rfl rfl (Quiet1.build (cs := [_, _, _, _, _, _]) hT rfl rfl rfl rfl rfl rfl) rfl rfl) QAll.nil))) ?_
        refine EAll.cons ?_ EAll.nil
        refine EOp.e rfl rfl rfl (EffX.call (f := 21) (sh := fun h => eval_True _ _ _ _ h _) (H0 := H) rfl Tryz.call21 rfl (hl := fun w m hr hw => lift_eval_True _ _ _ _ w m hr _ hw)) ?_
        rintro _ _ ⟨v_80, h0u84, rfl, rfl, H⟩
        apply Stg.next [(141, _), (130, _), (142, _), (143, _), (12, _), (13, _)] rfl rfl
        refine Stg.fin [11, 12, 13, 14, 15] rfl rfl (QAll.cons (QOp.p hT rfl rfl rfl rfl rfl) (QAll.cons (QOp.p hT rfl rfl rfl rfl rfl) (QAll.cons (QOp.p hT rfl rfl rfl rfl rfl) (QAll.cons (QOp.p hT rfl rfl rfl rfl rfl) (QAll.cons (QOp.p hT rfl rfl rfl rfl rfl) QAll.nil))))) ?_
        exact AtE.then_n ((HK2 _ () _ H).pickP (ts := [12, 13]) (is := []) rfl rfl (by decide) rfl)
       refine EAll.cons ?_ EAll.nil
       replace H := H.2
       refine EOp.e rfl rfl rfl (EffX.buildS2 (cs := [_, _, _, _, _, _]) hT rfl rfl rfl rfl rfl rfl rfl rfl H) ?_
       rintro _ _ ⟨a_40, h0u85, rfl, rfl, H⟩
       obtain ⟨hc11, H⟩ := H
       apply Stg.next [(140, _)] rfl rfl
       refine Stg.go [1, 2, 3] [0] rfl rfl (QAll.cons (QOp.q rfl rfl (Quiet1.load hT rfl rfl rfl hc11) rfl rfl) (QAll.cons (QOp.p hT rfl rfl rfl rfl rfl) (QAll.cons (QOp.q rfl rfl (Quiet1.build (cs := [_, _, _, _, _, _]) hT rfl rfl rfl rfl rfl rfl) rfl rfl) QAll.nil))) ?_
       refine EAll.cons ?_ EAll.nil
       refine EOp.e rfl rfl rfl (EffX.call (f := 8) (sh := fun h => nat_New _ h _) (H0 := H) rfl Tryz.call8 rfl (hl := fun w m hr hw => lift_nat_New _ w m hr _ hw)) ?_
       rintro _ _ ⟨v_82, h0u86, rfl, rfl, H⟩
       obtain ⟨hc12, H⟩ := H
       apply Stg.next [(131, _)] rfl rfl
       refine Stg.go [1, 2, 3] [10] rfl rfl (QAll.cons (QOp.q rfl rfl (Quiet1.load hT rfl rfl rfl hc12) rfl rfl) (QAll.cons (QOp.p hT rfl rfl rfl rfl rfl) (QAll.cons (QOp.q rfl rfl (Quiet1.build (cs := [_, _, _, _, _, _]) hT rfl rfl rfl rfl rfl rfl) rfl rfl) QAll.nil))) ?_
       refine EAll.cons ?_ EAll.nil
       refine EOp.e rfl rfl rfl (EffX.call (f := 21) (sh := fun h => eval_True _ _ _ _ h _) (H0 := H) rfl Tryz.call21 rfl (hl := fun w m hr hw => lift_eval_True _ _ _ _ w m hr _ hw)) ?_
       rintro _ _ ⟨v_83, h0u87, rfl, rfl, H⟩
       apply Stg.next [(141, _), (130, _), (142, _), (143, _), (12, _), (13, _)] rfl rfl
       refine Stg.fin [11, 12, 13, 14, 15] rfl rfl (QAll.cons (QOp.p hT rfl rfl rfl rfl rfl) (QAll.cons (QOp.p hT rfl rfl rfl rfl rfl) (QAll.cons (QOp.p hT rfl rfl rfl rfl rfl) (QAll.cons (QOp.p hT rfl rfl rfl rfl rfl) (QAll.cons (QOp.p hT rfl rfl rfl rfl rfl) QAll.nil))))) ?_
       exact AtE.then_n ((HK2 _ () _ H).pickP (ts := [12, 13]) (is := []) rfl rfl (by decide) rfl)
      refine EAll.cons ?_ EAll.nil
      replace H := H.2.2
      refine EOp.e rfl rfl rfl (EffX.buildS2 (cs := [_, _, _, _, _, _]) hT rfl rfl rfl rfl rfl rfl rfl rfl H) ?_
      rintro _ _ ⟨a_41, h0u88, rfl, rfl, H⟩
      obtain ⟨hc13, H⟩ := H
      apply Stg.next [(140, _)] rfl rfl
      refine Stg.go [1, 2, 3, 4, 5] [0, 6] rfl rfl (QAll.cons (QOp.q rfl rfl (Quiet1.load hT rfl rfl rfl hc13) rfl rfl) (QAll.cons (QOp.p hT rfl rfl rfl rfl rfl) (QAll.cons (QOp.q rfl rfl (Quiet1.build (cs := [_, _, _, _, _, _]) hT rfl rfl rfl rfl rfl rfl) rfl rfl) (QAll.cons (QOp.p hT rfl rfl rfl rfl rfl) (QAll.cons (QOp.p hT rfl rfl rfl rfl rfl) QAll.nil))))) ?_
      refine EAll.cons ?_ ?_
      ·
       replace H := H.1
       refine EOp.e rfl rfl rfl (EffX.call (f := 8) (sh := fun h => nat_New _ h _) (H0 := H) rfl Tryz.call8 rfl (hl := fun w m hr hw => lift_nat_New _ w m hr _ hw)) ?_
       rintro _ _ ⟨v_85, h0u89, rfl, rfl, H⟩
       obtain ⟨hc14, H⟩ := H
       apply Stg.next [(131, _)] rfl rfl
       refine Stg.go [1, 2, 3, 4, 5] [6] rfl rfl (QAll.cons (QOp.q rfl rfl (Quiet1.load hT rfl rfl rfl hc14) rfl rfl) (QAll.cons (QOp.p hT rfl rfl rfl rfl rfl) (QAll.cons (QOp.q rfl rfl (Quiet1.build (cs := [_, _, _, _, _, _]) hT rfl rfl rfl rfl rfl rfl) rfl rfl) (QAll.cons (QOp.p hT rfl rfl rfl rfl rfl) (QAll.cons (QOp.p hT rfl rfl rfl rfl rfl) QAll.nil))))) ?_
       refine EAll.cons ?_ EAll.nil
       refine EOp.e rfl rfl rfl (EffX.buildS2 (cs := [_, _]) hT rfl rfl rfl rfl rfl rfl rfl rfl H) ?_
       rintro _ _ ⟨a_42, h0u90, rfl, rfl, H⟩
       obtain ⟨hc15, H⟩ := H
       apply Stg.next [(137, _)] rfl rfl
       refine Stg.go [1, 2, 3] [10] rfl rfl (QAll.cons (QOp.q rfl rfl (Quiet1.load hT rfl rfl rfl hc15) rfl rfl) (QAll.cons (QOp.p hT rfl rfl rfl rfl rfl) (QAll.cons (QOp.q rfl rfl (Quiet1.build (cs := [_, _, _, _, _, _]) hT rfl rfl rfl rfl rfl rfl) rfl rfl) QAll.nil))) ?_
       refine EAll.cons ?_ EAll.nil
       refine EOp.e rfl rfl rfl (EffX.call (f := 21) (sh := fun h => eval_True _ _ _ _ h _) (H0 := H) rfl Tryz.call21 rfl (hl := fun w m hr hw => lift_eval_True _ _ _ _ w m hr _ hw)) ?_
       rintro _ _ ⟨v_87, h0u91, rfl, rfl, H⟩
       apply Stg.next [(141, _), (130, _), (142, _), (143, _), (12, _), (13, _)] rfl rfl
       refine Stg.fin [11, 12, 13, 14, 15] rfl rfl (QAll.cons (QOp.p hT rfl rfl rfl rfl rfl) (QAll.cons (QOp.p hT rfl rfl rfl rfl rfl) (QAll.cons (QOp.p hT rfl rfl rfl rfl rfl) (QAll.cons (QOp.p hT rfl rfl rfl rfl rfl) (QAll.cons (QOp.p hT rfl rfl rfl rfl rfl) QAll.nil))))) ?_
       exact AtE.then_n ((HK2 _ () _ H).pickP (ts := [12, 13]) (is := []) rfl rfl (by decide) rfl)
      refine EAll.cons ?_ EAll.nil
      replace H := H.2
      refine EOp.e rfl rfl rfl (EffX.buildS2 (cs := [_, _]) hT rfl rfl rfl rfl rfl rfl rfl rfl H) ?_
      rintro _ _ ⟨a_43, h0u92, rfl, rfl, H⟩
      obtain ⟨hc16, H⟩ := H
      apply Stg.next [(137, _)] rfl rfl
      refine Stg.go [1, 2, 3] [0] rfl rfl (QAll.cons (QOp.q rfl rfl (Quiet1.load hT rfl rfl rfl hc16) rfl rfl) (QAll.cons (QOp.p hT rfl rfl rfl rfl rfl) (QAll.cons (QOp.q rfl rfl (Quiet1.build (cs := [_, _, _, _, _, _]) hT rfl rfl rfl rfl rfl rfl) rfl rfl) QAll.nil))) ?_
      refine EAll.cons ?_ EAll.nil
      refine EOp.e rfl rfl rfl (EffX.call (f := 8) (sh := fun h => nat_New _ h _) (H0 := H) rfl Tryz.call8 rfl (hl := fun w m hr hw => lift_nat_New _ w m hr _ hw)) ?_
      rintro _ _ ⟨v_89, h0u93, rfl, rfl, H⟩
      obtain ⟨hc17, H⟩ := H
      apply Stg.next [(131, _)] rfl rfl
      refine Stg.go [1, 2, 3] [10] rfl rfl (QAll.cons (QOp.q rfl rfl (Quiet1.load hT rfl rfl rfl hc17) rfl rfl) (QAll.cons (QOp.p hT rfl rfl rfl rfl rfl) (QAll.cons (QOp.q rfl rfl (Quiet1.build (cs := [_, _, _, _, _, _]) hT rfl rfl rfl rfl rfl rfl) rfl rfl) QAll.nil))) ?_
      refine EAll.cons ?_ EAll.nil
      refine EOp.e rfl rfl rfl (EffX.call (f := 21) (sh := fun h => eval_True _ _ _ _ h _) (H0 := H) rfl Tryz.call21 rfl (hl := fun w m hr hw => lift_eval_True _ _ _ _ w m hr _ hw)) ?_
      rintro _ _ ⟨v_90, h0u94, rfl, rfl, H⟩
      apply Stg.next [(141, _), (130, _), (142, _), (143, _), (12, _), (13, _)] rfl rfl
      refine Stg.fin [11, 12, 13, 14, 15] rfl rfl (QAll.cons (QOp.p hT rfl rfl rfl rfl rfl) (QAll.cons (QOp.p hT rfl rfl rfl rfl rfl) (QAll.cons (QOp.p hT rfl rfl rfl rfl rfl) (QAll.cons (QOp.p hT rfl rfl rfl rfl rfl) (QAll.cons (QOp.p hT rfl rfl rfl rfl rfl) QAll.nil))))) ?_
      exact AtE.then_n ((HK2 _ () _ H).pickP (ts := [12, 13]) (is := []) rfl rfl (by decide) rfl)
   ·
    refine AtC.region ?_
    refine AtL.q rfl (Quiet1.loadSP (i := 1) (l := [_, _, _]) hT rfl rfl rfl rfl rfl rfl rfl rfl) ?_
    refine AtL.q rfl (Quiet1.loadSP (i := 0) (l := [_, _, _]) hT rfl rfl rfl rfl rfl rfl rfl rfl) ?_
    refine AtLX.bs (hT := hT) (cs := [_, _, _, _, _, _]) H rfl rfl rfl rfl rfl rfl rfl rfl rfl (fun a h0u3 H => ?_)
    refine AtL.e rfl (EffX.call (f := 18) (sh := fun h => law02uGreat _ h _) (H0 := H) rfl Tryz.call18 rfl (hl := fun w m hr hw => lift_law02uGreat _ w m hr _ hw)) ?_
    rintro _ _ ⟨v_2, h0u4, rfl, rfl, H⟩
    refine AtL.pures hT 1 _ _ _ _ rfl ?_
    refine AtL.splitB (t := 20) H rfl (fun H => ?_) (fun H => ?_)
    ·
     refine AtL.noF rfl rfl rfl (by decide) rfl ?_
     refine AtL.noF rfl rfl rfl (by decide) rfl ?_
     refine AtL.noF rfl rfl rfl (by decide) rfl ?_
     refine AtL.pures hT 2 _ _ _ _ rfl ?_
     refine AtL.noF rfl rfl rfl (by decide) rfl ?_
     refine AtL.noF rfl rfl rfl (by decide) rfl ?_
     refine AtL.noF rfl rfl rfl (by decide) rfl ?_
     refine AtL.pures hT 1 _ _ _ _ rfl ?_
     refine AtL.nil ?_
     exact AtE.then_n ((HK1 _ () _ H).pickP (ts := [29, 0, 1, 6, 7]) (is := [0, 1]) rfl rfl (by decide) rfl)
    ·
     refine AtL.yes rfl rfl rfl ?_
     refine AtL.q rfl (Quiet1.loadSP (i := 1) (l := [_, _, _]) hT rfl rfl rfl rfl rfl rfl rfl rfl) ?_
     refine AtL.yes rfl rfl rfl ?_
     refine AtL.e rfl (EffX.call (f := 19) (sh := fun h => ref02uRight _ h _) (H0 := H) rfl Tryz.call19 rfl (hl := fun w m hr hw => lift_ref02uRight _ w m hr _ hw)) ?_
     rintro _ _ ⟨v_3, h0u5, rfl, rfl, H⟩
     refine AtL.yes rfl rfl rfl ?_
     refine AtL.pures hT 1 _ _ _ _ rfl ?_
     refine AtL.pures hT 2 _ _ _ _ rfl ?_
     refine AtL.splitB (t := 25) H rfl (fun H => ?_) (fun H => ?_)
     ·
      refine AtL.noF rfl rfl rfl (by decide) rfl ?_
      refine AtL.noF rfl rfl rfl (by decide) rfl ?_
      refine AtL.noF rfl rfl rfl (by decide) rfl ?_
      refine AtL.pures hT 1 _ _ _ _ rfl ?_
      refine AtL.nil ?_
      exact AtE.then_n ((HK1 _ () _ H).pickP (ts := [29, 0, 1, 6, 7]) (is := [0, 1]) rfl rfl (by decide) rfl)
     ·
      refine AtL.yes rfl rfl rfl ?_
      refine AtL.q rfl (Quiet1.loadSP (i := 0) (l := [_, _, _]) hT rfl rfl rfl rfl rfl rfl rfl rfl) ?_
      refine AtL.yes rfl rfl rfl ?_
      refine AtL.e rfl (EffX.call (f := 19) (sh := fun h => ref02uRight _ h _) (H0 := H) rfl Tryz.call19 rfl (hl := fun w m hr hw => lift_ref02uRight _ w m hr _ hw)) ?_
      rintro _ _ ⟨v_4, h0u6, rfl, rfl, H⟩
      refine AtL.yes rfl rfl rfl ?_
      refine AtL.pures hT 1 _ _ _ _ rfl ?_
      refine AtL.pures hT 1 _ _ _ _ rfl ?_
      refine AtL.nil ?_
      exact AtE.then_n ((HK1 _ () _ H).pickP (ts := [29, 0, 1, 6, 7]) (is := [0, 1]) rfl rfl (by decide) rfl)
end Go.Proofs.YtlclchgingkkhaaGreatDoor

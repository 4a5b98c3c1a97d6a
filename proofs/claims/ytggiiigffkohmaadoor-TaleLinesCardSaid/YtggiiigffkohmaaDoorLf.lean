/-
  Laws that the proof of this claim's statement leans on, each proved under the conditions that it states.
-/
import Derived.Test.YtggiiigffkohmaaDoorCon
import Derived.Test.YtggiiigffkohmaaDoorSh
set_option linter.unusedVariables false
set_option linter.unusedSimpArgs false
namespace Go.Proofs.YtggiiigffkohmaaDoor
open Go Go.Lift Go.Sh
set_option maxRecDepth 100000
set_option maxHeartbeats 40000000
attribute [local irreducible] Calls AtL AtC AtE AtD Eff Quiet1 Stg qAt QAll eAt EAll nextK Code.wp
def T : TTab := [(3, .int .i64, 1, 8, [Value.int .i64 0]), (4, .bool, 1, 1, [Value.bool false]), (9, .string, 1, 16, [Value.string (ByteArray.mk #[])]), (22, .slice 4, 1, 24, [Sl.toV Sl.nil]), (24, .struct #[⟨ "Kind", 3, 0, false, "", "", 0⟩, ⟨ "N", 3, 1, false, "", "", 8⟩, ⟨ "Keep", 22, 2, false, "", "", 16⟩, ⟨ "Torn", 3, 3, false, "", "", 40⟩, ⟨ "Tear", 3, 4, false, "", "", 48⟩], 5, 56, [Value.int .i64 0, Value.int .i64 0, Sl.toV Sl.nil, Value.int .i64 0, Value.int .i64 0]), (37, .slice 9, 1, 24, [Sl.toV Sl.nil]), (42, .map 4 9, 1, 8, [Value.map none]), (46, .struct #[⟨ "addr", 43, 0, false, "", "strings", 0⟩, ⟨ "buf", 44, 1, false, "", "strings", 8⟩], 2, 32, [Value.pointer none, Sl.toV Sl.nil]), (53, .int .u64, 1, 8, [Value.int .u64 0])]
theorem hT : TTab.Ok Tryd.prog T := TTab.ok_cons (by kernel_rfl) (by kernel_rfl) (TTab.ok_cons (by kernel_rfl) (by kernel_rfl) (TTab.ok_cons (by kernel_rfl) (by kernel_rfl) (TTab.ok_cons (by kernel_rfl) (by kernel_rfl) (TTab.ok_cons (by kernel_rfl) (by kernel_rfl) (TTab.ok_cons (by kernel_rfl) (by kernel_rfl) (TTab.ok_cons (by kernel_rfl) (by kernel_rfl) (TTab.ok_cons (by kernel_rfl) (by kernel_rfl) (TTab.ok_cons (by kernel_rfl) (by kernel_rfl) (TTab.ok_nil _)))))))))
theorem hmix : Tryd.prog.follows .mixedOrders = true := by kernel_rfl
theorem lift_tale_join (words : Sl) (w : World) (m : Heap) (hr : Rel ⟨m, []⟩ w.heap) (S : ByteArray → Heap → Prop) (H : tale_join words m S) :
    Calls Tryd.prog 11 #[Sl.toV words] w (Post ⟨w, m⟩ Value.string S) := by
  refine Calls.lift (args := [Sl.toV words]) Tryd.func11 rfl Tryd.ntmps11 (Nat.le_of_ble_eq_true rfl) hr (tale_join words m S) H (fun H => ?_)
  refine AtC.pick (ts := [0]) rfl ?_
  unfold tale_join at H
  refine AtC.seqR ?_
  refine AtL.pures hT 1 _ _ _ _ rfl ?_
  refine AtL.nil ?_
  refine AtE.then_n (AtE.go ?_)
  refine AtC.seqR ?_
  refine AtL.pures hT 1 _ _ _ _ rfl ?_
  refine AtL.e rfl (EffX.call (f := 18) (sh := fun h => strings_Join _ _ h _) (H0 := H) rfl Tryd.call18 rfl (hl := fun w m hr hw => lift_strings_Join _ _ w m hr _ hw)) ?_
  rintro _ _ ⟨v, h0, rfl, rfl, H⟩
  refine AtL.pures hT 1 _ _ _ _ rfl ?_
  refine AtL.nil ?_
  refine AtE.then_n (AtE.go ?_)
  refine AtC.ret ?_
  exact AtE.retN (rs := [.tmp 2]) rfl (ResAll.cons (ResAt.tmp rfl) ResAll.nil) rfl H
theorem lift_tale_flags (l : Sl) (w : World) (m : Heap) (hr : Rel ⟨m, []⟩ w.heap) (S : ByteArray → Heap → Prop) (H : tale_flags l m S) :
    Calls Tryd.prog 13 #[Sl.toV l] w (Post ⟨w, m⟩ Value.string S) := by
  refine Calls.lift (args := [Sl.toV l]) Tryd.func13 rfl Tryd.ntmps13 (Nat.le_of_ble_eq_true rfl) hr (tale_flags l m S) H (fun H => ?_)
  refine AtC.pick (ts := [0]) rfl ?_
  unfold tale_flags at H
  refine AtC.seqR ?_
  refine AtL.pures hT 1 _ _ _ _ rfl ?_
  refine AtL.nil ?_
  refine AtE.then_n (AtE.go ?_)
  refine AtC.seq ?_
  refine AtC.seqR ?_
  refine AtL.pures hT 3 _ _ _ _ rfl ?_
  refine AtL.nil ?_
  refine AtE.then_n (AtE.go ?_)
  refine AtC.condB H rfl (fun H => ?_) (fun H => ?_)
  ·
   refine AtC.seqR ?_
   refine AtL.pures hT 1 _ _ _ _ rfl ?_
   refine AtL.nil ?_
   refine AtE.then_n (AtE.go ?_)
   refine AtC.ret ?_
   refine AtE.then_r ?_
   exact AtE.retN (rs := [.tmp 2]) rfl (ResAll.cons (ResAt.tmp rfl) ResAll.nil) rfl H
  ·
   refine AtC.skip ?_
   refine AtE.then_n (AtE.go ?_)
   refine AtC.seqR ?_
   refine AtL.e rfl (EffX.newM rfl H) ?_
   rintro _ _ ⟨v, h0, rfl, rfl, H⟩
   refine AtL.e rfl (EffX.insMB hT rfl rfl rfl rfl rfl rfl H) ?_
   rintro _ _ ⟨h0u1, rfl, H⟩
   refine AtL.e rfl (EffX.insMB hT rfl rfl rfl rfl rfl rfl H) ?_
   rintro _ _ ⟨h0u2, rfl, H⟩
   refine AtL.pures hT 2 _ _ _ _ rfl ?_
   refine AtL.nil ?_
   refine AtE.then_n (AtE.go ?_)
   refine AtC.seqR ?_
   refine AtL.e rfl (EffX.allocT hT rfl rfl H) ?_
   rintro _ _ ⟨out, h0u3, rfl, rfl, H⟩
   refine AtL.nil ?_
   refine AtE.then_n (AtE.go ?_)
   refine AtC.seq ?_
   refine AtC.seqR ?_
   refine AtL.pures hT 3 _ _ _ _ rfl ?_
   refine AtL.nil ?_
   refine AtE.then_n (AtE.go ?_)
   refine AtC.block ?_
   refine AtC.loopM (fun (s0 : Int) => [(14, Value.int .i64 s0)]) (fun (s0 : Int) => []) [3, 4, 12, 13] [14, 3, 4, 12, 13] [] [] H (by exact rfl) (by exact rfl) (by exact rfl) (by decide) (by exact rfl) (fun Kp1 s0 h0u4 H Q1 HK1 => ?_)
   refine AtC.seqR ?_
   refine AtL.pures hT 1 _ _ _ _ rfl ?_
   refine AtL.nil ?_
   refine AtE.then_n (AtE.go ?_)
   refine AtC.seq ?_
   refine AtC.condB H rfl (fun H => ?_) (fun H => ?_)
   ·
    refine AtC.skip ?_
    refine AtE.then_n (AtE.go ?_)
    refine AtC.seq ?_
    refine AtC.block ?_
    refine AtC.seqR ?_
    obtain ⟨a_, hc1, hd1, H⟩ := H
    refine AtL.q rfl (Quiet1.idxS (s := _) hT rfl rfl rfl rfl rfl hc1 hd1) ?_
    obtain ⟨v_1, hc2, H⟩ := H
    refine AtL.q rfl (Quiet1.load hT rfl rfl rfl hc2) ?_
    refine AtL.pures hT 1 _ _ _ _ rfl ?_
    refine AtL.nil ?_
    refine AtE.then_n (AtE.go ?_)
    refine AtC.region ?_
    refine AtL.pures hT 2 _ _ _ _ rfl ?_
    obtain ⟨fm3, v_2, hm3, hn3, H⟩ := H
    refine AtL.q rfl (Quiet1.lookM1B (key := v_1) hT rfl rfl rfl (by kernel_rfl) rfl rfl hm3 hn3) ?_
    refine AtL.e rfl (EffX.bldW conW rfl Tryd.call20 rfl rfl H) ?_
    rintro _ _ ⟨h0u5, rfl, rfl, H⟩
    refine AtL.nil ?_
    refine AtE.blk_n ?_
    refine AtE.then_n (AtE.go ?_)
    refine AtC.region ?_
    refine AtL.pures hT 2 _ _ _ _ rfl ?_
    refine AtL.nil ?_
    exact AtE.then_n ((HK1 _ _ H).pickP (ts := [14, 3, 4, 12, 13]) (is := []) rfl rfl (by decide) rfl)
   ·
    refine AtC.exit ?_
    refine AtE.then_x ?_
    refine AtE.then_x ?_
    refine AtE.blk_hit ?_
    refine AtE.then_n (AtE.go ?_)
    refine AtC.seqR ?_
    refine AtL.e rfl (EffX.bldS conS rfl Tryd.call21 rfl rfl H) ?_
    rintro _ _ ⟨v_4, h0u6, rfl, rfl, H⟩
    refine AtL.pures hT 1 _ _ _ _ rfl ?_
    refine AtL.nil ?_
    refine AtE.then_n (AtE.go ?_)
    refine AtC.ret ?_
    exact AtE.retN (rs := [.tmp 2]) rfl (ResAll.cons (ResAt.tmp rfl) ResAll.nil) rfl H
theorem lift_tale_Line (e : Int × Int × Sl × Int × Int) (w : World) (m : Heap) (hr : Rel ⟨m, []⟩ w.heap) (S : ByteArray → Heap → Prop) (H : tale_Line e m S) :
    Calls Tryd.prog 6 #[Value.agg (C_i64ui64usl_i64ui64 e).toArray] w (Post ⟨w, m⟩ Value.string S) := by
  refine Calls.lift (args := [Value.agg (C_i64ui64usl_i64ui64 e).toArray]) Tryd.func6 rfl Tryd.ntmps6 (Nat.le_of_ble_eq_true rfl) hr (tale_Line e m S) H (fun H => ?_)
  refine AtC.pick (ts := [0]) rfl ?_
  unfold tale_Line at H
  refine AtC.seqR ?_
  refine AtL.e rfl (EffX.boxP (cs := [_, _, _, _, _]) rfl rfl rfl H) ?_
  rintro _ _ ⟨b, _, rfl, rfl, _, H⟩
  replace H := H.self
  refine AtL.pures hT 1 _ _ _ _ rfl ?_
  refine AtL.nil ?_
  refine AtE.then_n (AtE.go ?_)
  refine AtC.seq ?_
  refine AtC.seqR ?_
  refine AtL.pures hT 1 _ _ _ _ rfl ?_
  refine AtL.q rfl (Quiet1.loadP (i := 0) hT rfl rfl rfl rfl rfl rfl) ?_
  refine AtL.nil ?_
  refine AtE.then_n (AtE.go ?_)
  refine AtC.block ?_
  refine AtC.seqR ?_
  refine AtL.pures hT 2 _ _ _ _ rfl ?_
  refine AtL.nil ?_
  refine AtE.then_n (AtE.go ?_)
  refine AtC.condB H rfl (fun H => ?_) (fun H => ?_)
  ·
   refine AtC.seqR ?_
   refine AtL.pures hT 1 _ _ _ _ rfl ?_
   refine AtL.q rfl (Quiet1.loadP (i := 0) hT rfl rfl rfl rfl rfl rfl) ?_
   refine AtL.e rfl (EffX.call (f := 12) (sh := fun h => strconv_Itoa _ h _) (H0 := H) rfl Tryd.call12 rfl (hl := fun w m hr hw => lift_strconv_Itoa _ w m hr _ hw)) ?_
   rintro _ _ ⟨v, h0u1, rfl, rfl, H⟩
   refine AtLX.bs (hT := hT) (cs := [_, _]) H rfl rfl rfl rfl rfl rfl rfl rfl rfl (fun a h0u2 H => ?_)
   refine AtL.e rfl (EffX.call (f := 11) (sh := fun h => tale_join _ h _) (H0 := H) rfl Tryd.call11 rfl (hl := fun w m hr hw => lift_tale_join _ w m hr _ hw)) ?_
   rintro _ _ ⟨v_2, h0u3, rfl, rfl, H⟩
   refine AtL.pures hT 1 _ _ _ _ rfl ?_
   refine AtL.nil ?_
   refine AtE.then_n (AtE.go ?_)
   refine AtC.ret ?_
   refine AtE.blk_r ?_
   refine AtE.then_r ?_
   exact AtE.retN (rs := [.tmp 2]) rfl (ResAll.cons (ResAt.tmp rfl) ResAll.nil) rfl H
  ·
   refine AtC.seqR ?_
   refine AtL.pures hT 2 _ _ _ _ rfl ?_
   refine AtL.nil ?_
   refine AtE.then_n (AtE.go ?_)
   refine AtC.condB H rfl (fun H => ?_) (fun H => ?_)
   ·
    refine AtC.seqR ?_
    refine AtL.pures hT 1 _ _ _ _ rfl ?_
    refine AtL.q rfl (Quiet1.loadP (i := 0) hT rfl rfl rfl rfl rfl rfl) ?_
    refine AtL.e rfl (EffX.call (f := 12) (sh := fun h => strconv_Itoa _ h _) (H0 := H) rfl Tryd.call12 rfl (hl := fun w m hr hw => lift_strconv_Itoa _ w m hr _ hw)) ?_
    rintro _ _ ⟨v_3, h0u4, rfl, rfl, H⟩
    refine AtLX.bs (hT := hT) (cs := [_, _]) H rfl rfl rfl rfl rfl rfl rfl rfl rfl (fun a_1 h0u5 H => ?_)
    refine AtL.e rfl (EffX.call (f := 11) (sh := fun h => tale_join _ h _) (H0 := H) rfl Tryd.call11 rfl (hl := fun w m hr hw => lift_tale_join _ w m hr _ hw)) ?_
    rintro _ _ ⟨v_5, h0u6, rfl, rfl, H⟩
    refine AtL.pures hT 1 _ _ _ _ rfl ?_
    refine AtL.nil ?_
    refine AtE.then_n (AtE.go ?_)
    refine AtC.ret ?_
    refine AtE.blk_r ?_
    refine AtE.then_r ?_
    exact AtE.retN (rs := [.tmp 2]) rfl (ResAll.cons (ResAt.tmp rfl) ResAll.nil) rfl H
   ·
    refine AtC.seqR ?_
    refine AtL.pures hT 2 _ _ _ _ rfl ?_
    refine AtL.nil ?_
    refine AtE.then_n (AtE.go ?_)
    refine AtC.condB H rfl (fun H => ?_) (fun H => ?_)
    ·
     apply AtC.seqS [2, 5, 8, 9, 10] [[], [], [], [], [], [2], [], [], [2, 5], [2, 5, 8], [2, 5, 8, 9], [2, 5, 8, 9, 10]] [[], [0], [0, 1], [], [3], [0, 1, 2, 3, 4], [], [6], [0, 1, 2, 3, 4, 5, 6, 7], [0, 1, 2, 3, 4, 5, 6, 7, 8], [0, 1, 2, 3, 4, 5, 6, 7, 8, 9], [0, 1, 2, 3, 4, 5, 6, 7, 8, 9, 10]] hmix (by kernel_rfl) [(21, _), (22, _), (24, _), (25, _), (27, _), (28, _)] rfl 5 rfl
     refine Stg.go [0, 1, 3, 4, 6, 7] [2] rfl rfl (QAll.cons (QOp.p hT rfl rfl rfl rfl rfl) (QAll.cons (QOp.q rfl rfl (Quiet1.loadP (i := 0) hT rfl rfl rfl rfl rfl rfl) rfl rfl) (QAll.cons (QOp.p hT rfl rfl rfl rfl rfl) (QAll.cons (QOp.q rfl rfl (Quiet1.loadP (i := 0) hT rfl rfl rfl rfl rfl rfl) rfl rfl) (QAll.cons (QOp.p hT rfl rfl rfl rfl rfl) (QAll.cons (QOp.q rfl rfl (Quiet1.loadP (i := 0) hT rfl rfl rfl rfl rfl rfl) rfl rfl) QAll.nil)))))) ?_
     refine EAll.cons ?_ EAll.nil
     refine EOp.e rfl rfl rfl (EffX.call (f := 13) (sh := fun h => tale_flags _ h _) (H0 := H) rfl Tryd.call13 rfl (hl := fun w m hr hw => lift_tale_flags _ w m hr _ hw)) ?_
     rintro _ _ ⟨v_6, h0u7, rfl, rfl, H⟩
     apply Stg.next [(23, _)] rfl rfl
     refine Stg.go [3, 4, 6, 7] [5] rfl rfl (QAll.cons (QOp.p hT rfl rfl rfl rfl rfl) (QAll.cons (QOp.q rfl rfl (Quiet1.loadP (i := 0) hT rfl rfl rfl rfl rfl rfl) rfl rfl) (QAll.cons (QOp.p hT rfl rfl rfl rfl rfl) (QAll.cons (QOp.q rfl rfl (Quiet1.loadP (i := 0) hT rfl rfl rfl rfl rfl rfl) rfl rfl) QAll.nil)))) ?_
     refine EAll.cons ?_ EAll.nil
     refine EOp.e rfl rfl rfl (EffX.call (f := 12) (sh := fun h => strconv_Itoa _ h _) (H0 := H) rfl Tryd.call12 rfl (hl := fun w m hr hw => lift_strconv_Itoa _ w m hr _ hw)) ?_
     rintro _ _ ⟨v_7, h0u8, rfl, rfl, H⟩
     apply Stg.next [(26, _)] rfl rfl
     refine Stg.go [6, 7] [8] rfl rfl (QAll.cons (QOp.p hT rfl rfl rfl rfl rfl) (QAll.cons (QOp.q rfl rfl (Quiet1.loadP (i := 0) hT rfl rfl rfl rfl rfl rfl) rfl rfl) QAll.nil)) ?_
     refine EAll.cons ?_ EAll.nil
     refine EOp.e rfl rfl rfl (EffX.call (f := 12) (sh := fun h => strconv_Itoa _ h _) (H0 := H) rfl Tryd.call12 rfl (hl := fun w m hr hw => lift_strconv_Itoa _ w m hr _ hw)) ?_
     rintro _ _ ⟨v_8, h0u9, rfl, rfl, H⟩
     apply Stg.next [(29, _)] rfl rfl
     refine Stg.go [] [9] rfl rfl QAll.nil ?_
     refine EAll.cons ?_ EAll.nil
     refine EOp.e rfl rfl rfl (EffX.buildS2 (cs := [_, _, _, _]) hT rfl rfl rfl rfl rfl rfl rfl rfl H) ?_
     rintro _ _ ⟨a_2, h0u10, rfl, rfl, H⟩
     apply Stg.next [(30, _)] rfl rfl
     refine Stg.go [] [10] rfl rfl QAll.nil ?_
     refine EAll.cons ?_ EAll.nil
     refine EOp.e rfl rfl rfl (EffX.call (f := 11) (sh := fun h => tale_join _ h _) (H0 := H) rfl Tryd.call11 rfl (hl := fun w m hr hw => lift_tale_join _ w m hr _ hw)) ?_
     rintro _ _ ⟨v_10, h0u11, rfl, rfl, H⟩
     apply Stg.next [(31, _), (2, _)] rfl rfl
     refine Stg.fin [11] rfl rfl (QAll.cons (QOp.p hT rfl rfl rfl rfl rfl) QAll.nil) ?_
     refine AtE.then_n (AtE.go ?_)
     refine AtC.ret ?_
     refine AtE.blk_r ?_
     refine AtE.then_r ?_
     exact AtE.retN (rs := [.tmp 2]) rfl (ResAll.cons (ResAt.tmp rfl) ResAll.nil) rfl H
    ·
     refine AtC.skip ?_
     refine AtE.blk_n ?_
     refine AtE.then_n (AtE.go ?_)
     refine AtC.seqR ?_
     refine AtL.pures hT 1 _ _ _ _ rfl ?_
     refine AtL.nil ?_
     refine AtE.then_n (AtE.go ?_)
     refine AtC.ret ?_
     exact AtE.retN (rs := [.tmp 2]) rfl (ResAll.cons (ResAt.tmp rfl) ResAll.nil) rfl H
theorem lift_law24uspeaks (w : World) (m : Heap) (hr : Rel ⟨m, []⟩ w.heap) (S : Bool → Heap → Prop) (H : law24uspeaks m S) :
    Calls Tryd.prog 5 #[] w (Post ⟨w, m⟩ Value.bool S) := by
  refine Calls.lift (args := []) Tryd.func5 rfl Tryd.ntmps5 (Nat.le_of_ble_eq_true rfl) hr (law24uspeaks m S) H (fun H => ?_)
  refine AtC.pick (ts := []) rfl ?_
  unfold law24uspeaks at H
  refine AtC.seqR ?_
  refine AtL.pures hT 1 _ _ _ _ rfl ?_
  refine AtL.nil ?_
  refine AtE.then_n (AtE.go ?_)
  refine AtC.seqR ?_
  refine AtL.q rfl (Quiet1.build (cs := [_, _, _, _, _]) hT rfl rfl rfl rfl rfl rfl) ?_
  refine AtL.e rfl (EffX.call (f := 6) (sh := fun h => tale_Line _ h _) (H0 := H) rfl Tryd.call6 rfl (hl := fun w m hr hw => lift_tale_Line _ w m hr _ hw)) ?_
  rintro _ _ ⟨v, h0, rfl, rfl, H⟩
  refine AtL.pures hT 2 _ _ _ _ rfl ?_
  refine AtL.nil ?_
  refine AtE.then_n (AtE.go ?_)
  refine AtC.ret ?_
  exact AtE.retN (rs := [.tmp 0]) rfl (ResAll.cons (ResAt.tmp rfl) ResAll.nil) rfl H
theorem lift_tale_number (s0 : ByteArray) (w : World) (m : Heap) (hr : Rel ⟨m, []⟩ w.heap) (S : Int → Heap → Prop) (H : tale_number s0 m S) :
    Calls Tryd.prog 15 #[Value.string s0] w (Post ⟨w, m⟩ (Value.int .i64) S) := by
  refine Calls.lift (args := [Value.string s0]) Tryd.func15 rfl Tryd.ntmps15 (Nat.le_of_ble_eq_true rfl) hr (tale_number s0 m S) H (fun H => ?_)
  refine AtC.pick (ts := [0]) rfl ?_
  unfold tale_number at H
  refine AtC.seqR ?_
  refine AtL.pures hT 1 _ _ _ _ rfl ?_
  refine AtL.nil ?_
  refine AtE.then_n (AtE.go ?_)
  refine AtC.seqR ?_
  refine AtL.pures hT 1 _ _ _ _ rfl ?_
  refine AtL.e rfl (EffX.call (f := 23) (sh := fun h => strconv_Atoi _ h _) (H0 := H) rfl Tryd.call23 rfl (hl := fun w m hr hw => lift_strconv_Atoi _ w m hr _ hw)) ?_
  rintro _ _ ⟨v, h0, rfl, rfl, H⟩
  refine AtL.pures hT 5 _ _ _ _ rfl ?_
  refine AtL.nil ?_
  refine AtE.then_n (AtE.go ?_)
  refine AtC.seqR ?_
  refine AtL.pures hT 2 _ _ _ _ rfl ?_
  refine AtL.nil ?_
  refine AtE.then_n (AtE.go ?_)
  refine AtC.ret ?_
  exact AtE.retN (rs := [.tmp 2]) rfl (ResAll.cons (ResAt.tmp rfl) ResAll.nil) rfl H
theorem lift_tale_truths (s0 : ByteArray) (w : World) (m : Heap) (hr : Rel ⟨m, []⟩ w.heap) (S : Sl → Heap → Prop) (H : tale_truths s0 m S) :
    Calls Tryd.prog 16 #[Value.string s0] w (Post ⟨w, m⟩ Sl.toV S) := by
  refine Calls.lift (args := [Value.string s0]) Tryd.func16 rfl Tryd.ntmps16 (Nat.le_of_ble_eq_true rfl) hr (tale_truths s0 m S) H (fun H => ?_)
  refine AtC.pick (ts := [0]) rfl ?_
  unfold tale_truths at H
  refine AtC.seqR ?_
  refine AtL.pures hT 1 _ _ _ _ rfl ?_
  refine AtL.nil ?_
  refine AtE.then_n (AtE.go ?_)
  refine AtC.seq ?_
  refine AtC.seqR ?_
  refine AtL.pures hT 1 _ _ _ _ rfl ?_
  refine AtL.nil ?_
  refine AtE.then_n (AtE.go ?_)
  refine AtC.block ?_
  refine AtC.loopM (fun (s0u1 : Sl × Int) => [(2, Sl.toV s0u1.1), (3, Value.int .i64 s0u1.2)]) (fun (s0u1 : Sl × Int) => []) [0] [2, 3, 0] [] [] H (by exact rfl) (by exact rfl) (by exact rfl) (by decide) (by exact rfl) (fun Kp1 s0u1 h0 H Q1 HK1 => ?_)
  refine AtC.seq ?_
  refine AtC.joinSeq (β := Unit) (fun (t0 : Bool) (bb : Unit) => [(11, Value.bool t0)]) (fun (t0 : Bool) (bb : Unit) => []) [0, 2, 3] [] H (by exact rfl) (by exact rfl) (fun t0 bb h0u1 H => ?_) (fun J2 H HK2 => ?_)
  ·
   refine AtC.condB H rfl (fun H => ?_) (fun H => ?_)
   ·
    refine AtC.skip ?_
    refine AtE.then_n (AtE.go ?_)
    refine AtC.seq ?_
    refine AtC.block ?_
    refine AtC.region ?_
    refine AtL.pures hT 3 _ _ _ _ rfl ?_
    obtain ⟨hd2, v, hc2, H⟩ := H
    refine AtL.q rfl (Quiet1.idxStr hT rfl rfl rfl rfl hd2 hc2) ?_
    refine AtL.pures hT 1 _ _ _ _ rfl ?_
    refine AtLX.bs (hT := hT) (cs := [_]) H rfl rfl rfl rfl rfl rfl rfl rfl rfl (fun a h0u2 H => ?_)
    refine AtL.e rfl (EffX.appendS (s := _) (u := _) hT rfl rfl rfl rfl rfl rfl rfl rfl rfl rfl (by decide) H) ?_
    rintro _ _ ⟨v_2, h0u3, rfl, rfl, H⟩
    refine AtL.pures hT 1 _ _ _ _ rfl ?_
    refine AtL.nil ?_
    refine AtE.blk_n ?_
    refine AtE.then_n (AtE.go ?_)
    refine AtC.region ?_
    refine AtL.pures hT 3 _ _ _ _ rfl ?_
    replace H := H _ rfl
    refine AtL.nil ?_
    exact AtE.then_n ((HK1 _ _ H).pickP (ts := [2, 3, 0]) (is := []) rfl rfl (by decide) rfl)
   ·
    refine AtC.exit ?_
    refine AtE.then_x ?_
    refine AtE.then_x ?_
    refine AtE.blk_hit ?_
    refine AtE.then_n (AtE.go ?_)
    refine AtC.seqR ?_
    refine AtL.pures hT 2 _ _ _ _ rfl ?_
    refine AtL.nil ?_
    refine AtE.then_n (AtE.go ?_)
    refine AtC.ret ?_
    exact AtE.retN (rs := [.tmp 2]) rfl (ResAll.cons (ResAt.tmp rfl) ResAll.nil) rfl H
  ·
   refine AtC.region ?_
   refine AtL.pures hT 3 _ _ _ _ rfl ?_
   refine AtL.splitB (t := 6) H rfl (fun H => ?_) (fun H => ?_)
   ·
    refine AtL.yes rfl rfl rfl ?_
    refine AtL.pures hT 1 _ _ _ _ rfl ?_
    refine AtL.yes rfl rfl rfl ?_
    refine AtL.pures hT 1 _ _ _ _ rfl ?_
    refine AtL.yes rfl rfl rfl ?_
    refine AtL.pures hT 1 _ _ _ _ rfl ?_
    refine AtL.yes rfl rfl rfl ?_
    refine AtL.pures hT 1 _ _ _ _ rfl ?_
    refine AtL.pures hT 1 _ _ _ _ rfl ?_
    refine AtL.nil ?_
    exact AtE.then_n ((HK2 _ () _ H).pickP (ts := [11, 0, 2, 3]) (is := []) rfl rfl (by decide) rfl)
   ·
    refine AtL.noF rfl rfl rfl (by decide) rfl ?_
    refine AtL.noF rfl rfl rfl (by decide) rfl ?_
    refine AtL.noF rfl rfl rfl (by decide) rfl ?_
    refine AtL.noF rfl rfl rfl (by decide) rfl ?_
    refine AtL.pures hT 1 _ _ _ _ rfl ?_
    refine AtL.nil ?_
    exact AtE.then_n ((HK2 _ () _ H).pickP (ts := [11, 0, 2, 3]) (is := []) rfl rfl (by decide) rfl)
theorem lift_tale_Read (s0 : ByteArray) (w : World) (m : Heap) (hr : Rel ⟨m, []⟩ w.heap) (S : ((Int × Int × Sl × Int × Int) × Int) → Heap → Prop) (H : tale_Read s0 m S) :
    Calls Tryd.prog 7 #[Value.string s0] w (Post ⟨w, m⟩ (fun r => Value.tuple #[(fun r => Value.agg (C_i64ui64usl_i64ui64 r).toArray) r.1, (Value.int .i64) r.2]) S) := by
  refine Calls.lift (args := [Value.string s0]) Tryd.func7 rfl Tryd.ntmps7 (Nat.le_of_ble_eq_true rfl) hr (tale_Read s0 m S) H (fun H => ?_)
  refine AtC.pick (ts := [0]) rfl ?_
  unfold tale_Read at H
  refine AtC.seqR ?_
  refine AtL.e rfl (EffX.allocP (cs := [_, _, _, _, _]) hT rfl rfl H) ?_
  rintro _ _ ⟨b, _, rfl, rfl, _, H⟩
  replace H := H.self
  refine AtL.pures hT 1 _ _ _ _ rfl ?_
  refine AtL.nil ?_
  refine AtE.then_n (AtE.go ?_)
  refine AtC.seqR ?_
  refine AtL.pures hT 1 _ _ _ _ rfl ?_
  refine AtL.e rfl (EffX.call (f := 14) (sh := fun h => strings_Split _ _ h _) (H0 := H) rfl Tryd.call14 rfl (hl := fun w m hr hw => lift_strings_Split _ _ w m hr _ hw)) ?_
  rintro _ _ ⟨v, h0u1, rfl, rfl, H⟩
  refine AtL.pures hT 1 _ _ _ _ rfl ?_
  refine AtL.nil ?_
  refine AtE.then_n (AtE.go ?_)
  refine AtC.seqR ?_
  refine AtL.q rfl (Quiet1.build (cs := [_, _, _, _, _]) hT rfl rfl rfl rfl rfl rfl) ?_
  refine AtL.e rfl (EffX.allocP (cs := [_, _, _, _, _]) hT rfl rfl H) ?_
  rintro _ _ ⟨b_1, _, rfl, rfl, _, H⟩
  replace H := H.self
  refine AtL.e rfl (EffX.storeSP (i := 0) (qv := [(_, [_, _, _, _, _]), (_, [_, _, _, _, _])]) hT rfl rfl rfl rfl rfl rfl rfl rfl rfl rfl) ?_
  rintro _ _ rfl
  refine AtL.nil ?_
  refine AtE.then_n (AtE.go ?_)
  refine AtC.joinSeq (β := Unit) (fun (t0 : Int × Int × Sl × Int × Int) (bb : Unit) => []) (fun (t0 : Int × Int × Sl × Int × Int) (bb : Unit) => [(b_1, [Value.int .i64 t0.1, Value.int .i64 t0.2.1, Sl.toV t0.2.2.1, Value.int .i64 t0.2.2.2.1, Value.int .i64 t0.2.2.2.2])]) [0, 2, 5] [1] H (by exact rfl) (by exact rfl) (fun t0 bb h0u3 H => ?_) (fun J1 H HK1 => ?_)
  ·
   refine AtC.seq ?_
   refine AtC.joinSeq (β := Unit) (fun (t0u4 : Bool) (bb_4 : Unit) => [(70, Value.bool t0u4)]) (fun (t0u4 : Bool) (bb_4 : Unit) => []) [2, 5] [0, 1] H (by exact rfl) (by exact rfl) (fun t0u4 bb_4 h0u12 H => ?_) (fun J24 H HK24 => ?_)
   ·
    refine AtC.condB H rfl (fun H => ?_) (fun H => ?_)
    ·
     refine AtC.seqR ?_
     refine AtL.q rfl (Quiet1.build (cs := [_, _, _, _, _]) hT rfl rfl rfl rfl rfl rfl) ?_
     refine AtL.e rfl (EffX.storeSP (i := 1) (qv := [(_, [_, _, _, _, _]), (_, [_, _, _, _, _])]) hT rfl rfl rfl rfl rfl rfl rfl rfl rfl rfl) ?_
     rintro _ _ rfl
     refine AtL.pures hT 1 _ _ _ _ rfl ?_
     refine AtL.nil ?_
     refine AtE.then_n (AtE.go ?_)
     refine AtC.ret ?_
     refine AtE.then_r ?_
     exact AtE.retN (rs := [.cell 2 24, .tmp 3]) rfl (ResAll.cons (ResAt.cellSP (i := 1) (l := [_, _, _, _, _]) hT rfl rfl rfl rfl rfl rfl rfl) (ResAll.cons (ResAt.tmp rfl) ResAll.nil)) rfl H
    ·
     refine AtC.skip ?_
     refine AtE.then_n (AtE.go ?_)
     refine AtC.seqR ?_
     refine AtL.q rfl (Quiet1.loadSP (i := 0) (l := [_, _, _, _, _]) hT rfl rfl rfl rfl rfl rfl rfl rfl) ?_
     refine AtL.e rfl (EffX.storeSP (i := 1) (qv := [(_, [_, _, _, _, _]), (_, [_, _, _, _, _])]) hT rfl rfl rfl rfl rfl rfl rfl rfl rfl rfl) ?_
     rintro _ _ rfl
     refine AtL.pures hT 1 _ _ _ _ rfl ?_
     refine AtL.nil ?_
     refine AtE.then_n (AtE.go ?_)
     refine AtC.ret ?_
     exact AtE.retN (rs := [.cell 2 24, .tmp 3]) rfl (ResAll.cons (ResAt.cellSP (i := 1) (l := [_, _, _, _, _]) hT rfl rfl rfl rfl rfl rfl rfl) (ResAll.cons (ResAt.tmp rfl) ResAll.nil)) rfl H
   ·
    refine AtC.region ?_
    refine AtL.pures hT 1 _ _ _ _ rfl ?_
    refine AtL.q rfl (Quiet1.loadP (i := 0) hT rfl rfl rfl rfl rfl rfl) ?_
    refine AtL.pures hT 2 _ _ _ _ rfl ?_
    refine AtL.splitB (t := 65) H rfl (fun H => ?_) (fun H => ?_)
    ·
     refine AtL.noF rfl rfl rfl (by decide) rfl ?_
     refine AtL.noF rfl rfl rfl (by decide) rfl ?_
     refine AtL.noF rfl rfl rfl (by decide) rfl ?_
     refine AtL.noF rfl rfl rfl (by decide) rfl ?_
     refine AtL.pures hT 1 _ _ _ _ rfl ?_
     refine AtL.nil ?_
     exact AtE.then_n ((HK24 _ () _ H).pickP (ts := [70, 2, 5]) (is := [0, 1]) rfl rfl (by decide) rfl)
    ·
     refine AtL.yes rfl rfl rfl ?_
     refine AtL.q rfl (Quiet1.loadSP (i := 0) (l := [_, _, _, _, _]) hT rfl rfl rfl rfl rfl rfl rfl rfl) ?_
     refine AtL.yes rfl rfl rfl ?_
     refine AtL.e rfl (EffX.call (f := 6) (sh := fun h => tale_Line _ h _) (H0 := H) rfl Tryd.call6 rfl (hl := fun w m hr hw => lift_tale_Line _ w m hr _ hw)) ?_
     rintro _ _ ⟨v_14, h0u13, rfl, rfl, H⟩
     refine AtL.yes rfl rfl rfl ?_
     refine AtL.pures hT 1 _ _ _ _ rfl ?_
     refine AtL.yes rfl rfl rfl ?_
     refine AtL.pures hT 1 _ _ _ _ rfl ?_
     refine AtL.pures hT 1 _ _ _ _ rfl ?_
     refine AtL.nil ?_
     exact AtE.then_n ((HK24 _ () _ H).pickP (ts := [70, 2, 5]) (is := [0, 1]) rfl rfl (by decide) rfl)
  ·
   refine AtC.block ?_
   refine AtC.joinSeq (β := Unit) (fun (t0u1 : Bool) (bb_1 : Unit) => [(9, Value.bool t0u1)]) (fun (t0u1 : Bool) (bb_1 : Unit) => []) [0, 2, 4, 5] [0, 1] H (by exact rfl) (by exact rfl) (fun t0u1 bb_1 h0u4 H => ?_) (fun J2 H HK2 => ?_)
   ·
    refine AtC.condB H rfl (fun H => ?_) (fun H => ?_)
    ·
     refine AtC.region ?_
     refine AtL.pures hT 1 _ _ _ _ rfl ?_
     obtain ⟨a_1_, hc4, hd4, H⟩ := H
     refine AtL.q rfl (Quiet1.idxS (s := _) hT rfl rfl rfl rfl rfl hc4 hd4) ?_
     obtain ⟨v_2, hc5, H⟩ := H
     refine AtL.q rfl (Quiet1.load hT rfl rfl rfl hc5) ?_
     refine AtL.e rfl (EffX.call (f := 15) (sh := fun h => tale_number _ h _) (H0 := H) rfl Tryd.call15 rfl (hl := fun w m hr hw => lift_tale_number _ w m hr _ hw)) ?_
     rintro _ _ ⟨v_3, h0u5, rfl, rfl, H⟩
     refine AtL.q rfl (Quiet1.build (cs := [_, _, _, _, _]) hT rfl rfl rfl rfl rfl rfl) ?_
     refine AtL.e rfl (EffX.storeSP (i := 0) (qv := [(_, [_, _, _, _, _]), (_, [_, _, _, _, _])]) hT rfl rfl rfl rfl rfl rfl rfl rfl rfl rfl) ?_
     rintro _ _ rfl
     refine AtL.nil ?_
     refine AtE.blk_n ?_
     exact AtE.then_n ((HK1 _ () _ H).pickP (ts := [0, 2, 5]) (is := [0, 1]) rfl rfl (by decide) rfl)
    ·
     refine AtC.joinSeq (β := Unit) (fun (t0u2 : Bool) (bb_2 : Unit) => [(24, Value.bool t0u2)]) (fun (t0u2 : Bool) (bb_2 : Unit) => []) [0, 2, 4, 5] [0, 1] H (by exact rfl) (by exact rfl) (fun t0u2 bb_2 h0u6 H => ?_) (fun J7 H HK7 => ?_)
     ·
      refine AtC.condB H rfl (fun H => ?_) (fun H => ?_)
      ·
       refine AtC.region ?_
       refine AtL.pures hT 1 _ _ _ _ rfl ?_
       obtain ⟨a_3_, hc9, hd9, H⟩ := H
       refine AtL.q rfl (Quiet1.idxS (s := _) hT rfl rfl rfl rfl rfl hc9 hd9) ?_
       obtain ⟨v_5, hc10, H⟩ := H
       refine AtL.q rfl (Quiet1.load hT rfl rfl rfl hc10) ?_
       refine AtL.e rfl (EffX.call (f := 15) (sh := fun h => tale_number _ h _) (H0 := H) rfl Tryd.call15 rfl (hl := fun w m hr hw => lift_tale_number _ w m hr _ hw)) ?_
       rintro _ _ ⟨v_6, h0u7, rfl, rfl, H⟩
       refine AtL.q rfl (Quiet1.build (cs := [_, _, _, _, _]) hT rfl rfl rfl rfl rfl rfl) ?_
       refine AtL.e rfl (EffX.storeSP (i := 0) (qv := [(_, [_, _, _, _, _]), (_, [_, _, _, _, _])]) hT rfl rfl rfl rfl rfl rfl rfl rfl rfl rfl) ?_
       rintro _ _ rfl
       refine AtL.nil ?_
       refine AtE.blk_n ?_
       exact AtE.then_n ((HK1 _ () _ H).pickP (ts := [0, 2, 5]) (is := [0, 1]) rfl rfl (by decide) rfl)
      ·
       refine AtC.joinSeq (β := Unit) (fun (t0u3 : Bool) (bb_3 : Unit) => [(39, Value.bool t0u3)]) (fun (t0u3 : Bool) (bb_3 : Unit) => []) [0, 2, 4, 5] [0, 1] H (by exact rfl) (by exact rfl) (fun t0u3 bb_3 h0u8 H => ?_) (fun J12 H HK12 => ?_)
       ·
        refine AtC.condB H rfl (fun H => ?_) (fun H => ?_)
        ·
         obtain ⟨a_5_, hc14, hd14, H⟩ := H
         obtain ⟨v_8, hc15, H⟩ := H
         obtain ⟨a_6_, hc16, hd16, H⟩ := H
         obtain ⟨v_9, hc17, H⟩ := H
         obtain ⟨a_7_, hc18, hd18, H⟩ := H
         obtain ⟨v_10, hc19, H⟩ := H
         apply AtC.stages [3, 7, 11, 13] [[], [], [], [], [], [], [], [3], [], [], [], [3, 7], [3, 7, 11], [3, 7, 11]] [[], [0], [0, 1], [0, 1, 2], [], [4], [4, 5], [0, 1, 2, 3, 4, 5, 6], [], [8], [8, 9], [0, 1, 2, 3, 4, 5, 6, 7, 8, 9, 10], [0, 1, 2, 3, 4, 5, 6, 7, 8, 9, 10, 11], [0, 1, 2, 3, 4, 5, 6, 7, 8, 9, 10, 11, 12]] hmix (by kernel_rfl) [(49, _), (50, _), (51, _), (53, _), (54, _), (55, _), (57, _), (58, _), (59, _)] rfl 4 rfl
         refine Stg.go [0, 1, 2, 4, 5, 6, 8, 9, 10] [3] rfl rfl (QAll.cons (QOp.p hT rfl rfl rfl rfl rfl) (QAll.cons (QOp.q rfl rfl (Quiet1.idxS (s := _) hT rfl rfl rfl rfl rfl hc14 hd14) rfl rfl) (QAll.cons (QOp.q rfl rfl (Quiet1.load hT rfl rfl rfl hc15) rfl rfl) (QAll.cons (QOp.p hT rfl rfl rfl rfl rfl) (QAll.cons (QOp.q rfl rfl (Quiet1.idxS (s := _) hT rfl rfl rfl rfl rfl hc16 hd16) rfl rfl) (QAll.cons (QOp.q rfl rfl (Quiet1.load hT rfl rfl rfl hc17) rfl rfl) (QAll.cons (QOp.p hT rfl rfl rfl rfl rfl) (QAll.cons (QOp.q rfl rfl (Quiet1.idxS (s := _) hT rfl rfl rfl rfl rfl hc18 hd18) rfl rfl) (QAll.cons (QOp.q rfl rfl (Quiet1.load hT rfl rfl rfl hc19) rfl rfl) QAll.nil))))))))) ?_
         refine EAll.cons ?_ EAll.nil
         refine EOp.e rfl rfl rfl (EffX.call (f := 16) (sh := fun h => tale_truths _ h _) (H0 := H) rfl Tryd.call16 rfl (hl := fun w m hr hw => lift_tale_truths _ w m hr _ hw)) ?_
         rintro _ _ ⟨v_11, h0u9, rfl, rfl, H⟩
         obtain ⟨hc20, H⟩ := H
         obtain ⟨hc21, H⟩ := H
         apply Stg.next [(52, _)] rfl rfl
         refine Stg.go [4, 5, 6, 8, 9, 10] [7] rfl rfl (QAll.cons (QOp.p hT rfl rfl rfl rfl rfl) (QAll.cons (QOp.q rfl rfl (Quiet1.idxS (s := _) hT rfl rfl rfl rfl rfl hc16 hd16) rfl rfl) (QAll.cons (QOp.q rfl rfl (Quiet1.load hT rfl rfl rfl hc20) rfl rfl) (QAll.cons (QOp.p hT rfl rfl rfl rfl rfl) (QAll.cons (QOp.q rfl rfl (Quiet1.idxS (s := _) hT rfl rfl rfl rfl rfl hc18 hd18) rfl rfl) (QAll.cons (QOp.q rfl rfl (Quiet1.load hT rfl rfl rfl hc21) rfl rfl) QAll.nil)))))) ?_
         refine EAll.cons ?_ EAll.nil
         refine EOp.e rfl rfl rfl (EffX.call (f := 15) (sh := fun h => tale_number _ h _) (H0 := H) rfl Tryd.call15 rfl (hl := fun w m hr hw => lift_tale_number _ w m hr _ hw)) ?_
         rintro _ _ ⟨v_12, h0u10, rfl, rfl, H⟩
         obtain ⟨hc22, H⟩ := H
         apply Stg.next [(56, _)] rfl rfl
         refine Stg.go [8, 9, 10] [11] rfl rfl (QAll.cons (QOp.p hT rfl rfl rfl rfl rfl) (QAll.cons (QOp.q rfl rfl (Quiet1.idxS (s := _) hT rfl rfl rfl rfl rfl hc18 hd18) rfl rfl) (QAll.cons (QOp.q rfl rfl (Quiet1.load hT rfl rfl rfl hc22) rfl rfl) QAll.nil))) ?_
         refine EAll.cons ?_ EAll.nil
         refine EOp.e rfl rfl rfl (EffX.call (f := 15) (sh := fun h => tale_number _ h _) (H0 := H) rfl Tryd.call15 rfl (hl := fun w m hr hw => lift_tale_number _ w m hr _ hw)) ?_
         rintro _ _ ⟨v_13, h0u11, rfl, rfl, H⟩
         apply Stg.next [(60, _), (61, _)] rfl rfl
         refine Stg.go [12] [13] rfl rfl (QAll.cons (QOp.q rfl rfl (Quiet1.build (cs := [_, _, _, _, _]) hT rfl rfl rfl rfl rfl rfl) rfl rfl) QAll.nil) ?_
         refine EAll.cons ?_ EAll.nil
         refine EOp.e rfl rfl rfl (EffX.storeSP (i := 0) (qv := [(_, [_, _, _, _, _]), (_, [_, _, _, _, _])]) hT rfl rfl rfl rfl rfl rfl rfl rfl rfl rfl) ?_
         rintro _ _ rfl
         apply Stg.next [] rfl rfl
         refine Stg.fin [] rfl rfl QAll.nil ?_
         refine AtE.blk_n ?_
         exact AtE.then_n ((HK1 _ () _ H).pickP (ts := [0, 2, 5]) (is := [0, 1]) rfl rfl (by decide) rfl)
        ·
         refine AtC.skip ?_
         refine AtE.blk_n ?_
         exact AtE.then_n ((HK1 _ () _ H).pickP (ts := [0, 2, 5]) (is := [0, 1]) rfl rfl (by decide) rfl)
       ·
        refine AtC.region ?_
        refine AtL.pures hT 1 _ _ _ _ rfl ?_
        obtain ⟨a_4_, hc12, hd12, H⟩ := H
        refine AtL.q rfl (Quiet1.idxS (s := _) hT rfl rfl rfl rfl rfl hc12 hd12) ?_
        obtain ⟨v_7, hc13, H⟩ := H
        refine AtL.q rfl (Quiet1.load hT rfl rfl rfl hc13) ?_
        refine AtL.pures hT 2 _ _ _ _ rfl ?_
        refine AtL.splitB (t := 44) H rfl (fun H => ?_) (fun H => ?_)
        ·
         refine AtL.yes rfl rfl rfl ?_
         refine AtL.pures hT 1 _ _ _ _ rfl ?_
         refine AtL.yes rfl rfl rfl ?_
         refine AtL.pures hT 1 _ _ _ _ rfl ?_
         refine AtL.yes rfl rfl rfl ?_
         refine AtL.pures hT 1 _ _ _ _ rfl ?_
         refine AtL.pures hT 2 _ _ _ _ rfl ?_
         refine AtL.nil ?_
         exact AtE.then_n ((HK12 _ () _ H).pickP (ts := [39, 0, 2, 4, 5]) (is := [0, 1]) rfl rfl (by decide) rfl)
        ·
         refine AtL.noF rfl rfl rfl (by decide) rfl ?_
         refine AtL.noF rfl rfl rfl (by decide) rfl ?_
         refine AtL.noF rfl rfl rfl (by decide) rfl ?_
         refine AtL.pures hT 2 _ _ _ _ rfl ?_
         refine AtL.nil ?_
         exact AtE.then_n ((HK12 _ () _ H).pickP (ts := [39, 0, 2, 4, 5]) (is := [0, 1]) rfl rfl (by decide) rfl)
     ·
      refine AtC.region ?_
      refine AtL.pures hT 1 _ _ _ _ rfl ?_
      obtain ⟨a_2_, hc7, hd7, H⟩ := H
      refine AtL.q rfl (Quiet1.idxS (s := _) hT rfl rfl rfl rfl rfl hc7 hd7) ?_
      obtain ⟨v_4, hc8, H⟩ := H
      refine AtL.q rfl (Quiet1.load hT rfl rfl rfl hc8) ?_
      refine AtL.pures hT 2 _ _ _ _ rfl ?_
      refine AtL.splitB (t := 29) H rfl (fun H => ?_) (fun H => ?_)
      ·
       refine AtL.yes rfl rfl rfl ?_
       refine AtL.pures hT 1 _ _ _ _ rfl ?_
       refine AtL.yes rfl rfl rfl ?_
       refine AtL.pures hT 1 _ _ _ _ rfl ?_
       refine AtL.yes rfl rfl rfl ?_
       refine AtL.pures hT 1 _ _ _ _ rfl ?_
       refine AtL.pures hT 2 _ _ _ _ rfl ?_
       refine AtL.nil ?_
       exact AtE.then_n ((HK7 _ () _ H).pickP (ts := [24, 0, 2, 4, 5]) (is := [0, 1]) rfl rfl (by decide) rfl)
      ·
       refine AtL.noF rfl rfl rfl (by decide) rfl ?_
       refine AtL.noF rfl rfl rfl (by decide) rfl ?_
       refine AtL.noF rfl rfl rfl (by decide) rfl ?_
       refine AtL.pures hT 2 _ _ _ _ rfl ?_
       refine AtL.nil ?_
       exact AtE.then_n ((HK7 _ () _ H).pickP (ts := [24, 0, 2, 4, 5]) (is := [0, 1]) rfl rfl (by decide) rfl)
   ·
    refine AtC.region ?_
    refine AtL.pures hT 1 _ _ _ _ rfl ?_
    obtain ⟨a_, hc2, hd2, H⟩ := H
    refine AtL.q rfl (Quiet1.idxS (s := _) hT rfl rfl rfl rfl rfl hc2 hd2) ?_
    obtain ⟨v_1, hc3, H⟩ := H
    refine AtL.q rfl (Quiet1.load hT rfl rfl rfl hc3) ?_
    refine AtL.pures hT 2 _ _ _ _ rfl ?_
    refine AtL.splitB (t := 14) H rfl (fun H => ?_) (fun H => ?_)
    ·
     refine AtL.yes rfl rfl rfl ?_
     refine AtL.pures hT 1 _ _ _ _ rfl ?_
     refine AtL.yes rfl rfl rfl ?_
     refine AtL.pures hT 1 _ _ _ _ rfl ?_
     refine AtL.yes rfl rfl rfl ?_
     refine AtL.pures hT 1 _ _ _ _ rfl ?_
     refine AtL.pures hT 2 _ _ _ _ rfl ?_
     refine AtL.nil ?_
     exact AtE.then_n ((HK2 _ () _ H).pickP (ts := [9, 0, 2, 4, 5]) (is := [0, 1]) rfl rfl (by decide) rfl)
    ·
     refine AtL.noF rfl rfl rfl (by decide) rfl ?_
     refine AtL.noF rfl rfl rfl (by decide) rfl ?_
     refine AtL.noF rfl rfl rfl (by decide) rfl ?_
     refine AtL.pures hT 2 _ _ _ _ rfl ?_
     refine AtL.nil ?_
     exact AtE.then_n ((HK2 _ () _ H).pickP (ts := [9, 0, 2, 4, 5]) (is := [0, 1]) rfl rfl (by decide) rfl)
theorem lift_ref24uSame (a : Int × Int × Sl × Int × Int) (b : Int × Int × Sl × Int × Int) (w : World) (m : Heap) (hr : Rel ⟨m, []⟩ w.heap) (S : Bool → Heap → Prop) (H : ref24uSame a b m S) :
    Calls Tryd.prog 9 #[Value.agg (C_i64ui64usl_i64ui64 a).toArray, Value.agg (C_i64ui64usl_i64ui64 b).toArray] w (Post ⟨w, m⟩ Value.bool S) := by
  refine Calls.lift (args := [Value.agg (C_i64ui64usl_i64ui64 a).toArray, Value.agg (C_i64ui64usl_i64ui64 b).toArray]) Tryd.func9 rfl Tryd.ntmps9 (Nat.le_of_ble_eq_true rfl) hr (ref24uSame a b m S) H (fun H => ?_)
  refine AtC.pick (ts := [0, 1]) rfl ?_
  unfold ref24uSame at H
  refine AtC.seqR ?_
  refine AtL.e rfl (EffX.boxP (cs := [_, _, _, _, _]) rfl rfl rfl H) ?_
  rintro _ _ ⟨b_1, _, rfl, rfl, _, H⟩
  refine AtL.e rfl (EffX.boxP (cs := [_, _, _, _, _]) rfl rfl rfl H) ?_
  rintro _ _ ⟨b_2, _, rfl, rfl, _, H⟩
  replace H := H.self
  refine AtL.pures hT 1 _ _ _ _ rfl ?_
  refine AtL.nil ?_
  refine AtE.then_n (AtE.go ?_)
  refine AtC.seq ?_
  refine AtC.joinSeq (β := Unit) (fun (t0 : Bool) (bb : Unit) => [(40, Value.bool t0)]) (fun (t0 : Bool) (bb : Unit) => []) [2, 3] [0, 1] H (by exact rfl) (by exact rfl) (fun t0 bb h0u1 H => ?_) (fun J1 H HK1 => ?_)
  ·
   refine AtC.condB H rfl (fun H => ?_) (fun H => ?_)
   ·
    refine AtC.seqR ?_
    refine AtL.pures hT 1 _ _ _ _ rfl ?_
    refine AtL.nil ?_
    refine AtE.then_n (AtE.go ?_)
    refine AtC.ret ?_
    refine AtE.then_r ?_
    exact AtE.retN (rs := [.tmp 4]) rfl (ResAll.cons (ResAt.tmp rfl) ResAll.nil) rfl H
   ·
    refine AtC.skip ?_
    refine AtE.then_n (AtE.go ?_)
    refine AtC.seq ?_
    refine AtC.seqR ?_
    refine AtL.pures hT 1 _ _ _ _ rfl ?_
    refine AtL.nil ?_
    refine AtE.then_n (AtE.go ?_)
    refine AtC.block ?_
    refine AtC.loopM (fun (s0 : Int) => [(5, Value.int .i64 s0)]) (fun (s0 : Int) => []) [2, 3] [5, 2, 3] [0, 1] [0, 1] H (by exact rfl) (by exact rfl) (by exact rfl) (by decide) (by exact rfl) (fun Kp2 s0 h0u2 H Q2 HK2 => ?_)
    refine AtC.seq ?_
    refine AtC.seqR ?_
    refine AtL.pures hT 2 _ _ _ _ rfl ?_
    refine AtL.q rfl (Quiet1.loadP (i := 1) hT rfl rfl rfl rfl rfl rfl) ?_
    refine AtL.pures hT 2 _ _ _ _ rfl ?_
    refine AtL.nil ?_
    refine AtE.then_n (AtE.go ?_)
    refine AtC.condB H rfl (fun H => ?_) (fun H => ?_)
    ·
     refine AtC.skip ?_
     refine AtE.then_n (AtE.go ?_)
     refine AtC.seq ?_
     refine AtC.block ?_
     refine AtC.seqD hmix (by kernel_rfl) ?_
     refine AtD.pures hT 1 _ _ _ _ rfl ?_
     refine AtD.q rfl (Quiet1.loadP (i := 1) hT rfl rfl rfl rfl rfl rfl) ?_
     refine AtD.pures hT 1 _ _ _ _ rfl ?_
     obtain ⟨a_1_, hc2, hd2, H⟩ := H
     refine AtD.q rfl (Quiet1.idxS (s := _) hT rfl rfl rfl rfl rfl hc2 hd2) ?_
     obtain ⟨v, hc3, H⟩ := H
     refine AtD.q rfl (Quiet1.load hT rfl rfl rfl hc3) ?_
     refine AtD.pures hT 1 _ _ _ _ rfl ?_
     refine AtD.q rfl (Quiet1.loadP (i := 0) hT rfl rfl rfl rfl rfl rfl) ?_
     refine AtD.pures hT 1 _ _ _ _ rfl ?_
     obtain ⟨a_2_, hc4, hd4, H⟩ := H
     refine AtD.q rfl (Quiet1.idxS (s := _) hT rfl rfl rfl rfl rfl hc4 hd4) ?_
     obtain ⟨v_1, hc5, H⟩ := H
     refine AtD.q rfl (Quiet1.load hT rfl rfl rfl hc5) ?_
     refine AtD.pures hT 1 _ _ _ _ rfl ?_
     refine AtD.nil ?_
     refine AtE.then_n (AtE.go ?_)
     refine AtC.condB H rfl (fun H => ?_) (fun H => ?_)
     ·
      refine AtC.seqR ?_
      refine AtL.pures hT 1 _ _ _ _ rfl ?_
      refine AtL.nil ?_
      refine AtE.then_n (AtE.go ?_)
      refine AtC.ret ?_
      refine AtE.blk_r ?_
      refine AtE.then_r ?_
      refine AtE.then_r ?_
      refine AtE.blk_r ?_
      refine AtE.then_r ?_
      exact AtE.retN (rs := [.tmp 4]) rfl (ResAll.cons (ResAt.tmp rfl) ResAll.nil) rfl H
     ·
      refine AtC.skip ?_
      refine AtE.blk_n ?_
      refine AtE.then_n (AtE.go ?_)
      refine AtC.region ?_
      refine AtL.pures hT 3 _ _ _ _ rfl ?_
      replace H := H _ rfl
      refine AtL.nil ?_
      exact AtE.then_n ((HK2 _ _ H).pickP (ts := [5, 2, 3]) (is := [0, 1]) rfl rfl (by decide) rfl)
    ·
     refine AtC.exit ?_
     refine AtE.then_x ?_
     refine AtE.then_x ?_
     refine AtE.blk_hit ?_
     refine AtE.then_n (AtE.go ?_)
     refine AtC.seqR ?_
     refine AtL.pures hT 1 _ _ _ _ rfl ?_
     refine AtL.nil ?_
     refine AtE.then_n (AtE.go ?_)
     refine AtC.ret ?_
     exact AtE.retN (rs := [.tmp 4]) rfl (ResAll.cons (ResAt.tmp rfl) ResAll.nil) rfl H
  ·
   refine AtC.region ?_
   refine AtL.pures hT 1 _ _ _ _ rfl ?_
   refine AtL.q rfl (Quiet1.loadP (i := 1) hT rfl rfl rfl rfl rfl rfl) ?_
   refine AtL.pures hT 1 _ _ _ _ rfl ?_
   refine AtL.q rfl (Quiet1.loadP (i := 0) hT rfl rfl rfl rfl rfl rfl) ?_
   refine AtL.pures hT 2 _ _ _ _ rfl ?_
   refine AtL.splitB (t := 11) H rfl (fun H => ?_) (fun H => ?_)
   ·
    refine AtL.noF rfl rfl rfl (by decide) rfl ?_
    refine AtL.noF rfl rfl rfl (by decide) rfl ?_
    refine AtL.noF rfl rfl rfl (by decide) rfl ?_
    refine AtL.noF rfl rfl rfl (by decide) rfl ?_
    refine AtL.noF rfl rfl rfl (by decide) rfl ?_
    refine AtL.pures hT 2 _ _ _ _ rfl ?_
    refine AtL.noF rfl rfl rfl (by decide) rfl ?_
    refine AtL.noF rfl rfl rfl (by decide) rfl ?_
    refine AtL.noF rfl rfl rfl (by decide) rfl ?_
    refine AtL.noF rfl rfl rfl (by decide) rfl ?_
    refine AtL.noF rfl rfl rfl (by decide) rfl ?_
    refine AtL.pures hT 2 _ _ _ _ rfl ?_
    refine AtL.noF rfl rfl rfl (by decide) rfl ?_
    refine AtL.noF rfl rfl rfl (by decide) rfl ?_
    refine AtL.noF rfl rfl rfl (by decide) rfl ?_
    refine AtL.noF rfl rfl rfl (by decide) rfl ?_
    refine AtL.noF rfl rfl rfl (by decide) rfl ?_
    refine AtL.pures hT 2 _ _ _ _ rfl ?_
    refine AtL.noF rfl rfl rfl (by decide) rfl ?_
    refine AtL.noF rfl rfl rfl (by decide) rfl ?_
    refine AtL.noF rfl rfl rfl (by decide) rfl ?_
    refine AtL.noF rfl rfl rfl (by decide) rfl ?_
    refine AtL.noF rfl rfl rfl (by decide) rfl ?_
    refine AtL.noF rfl rfl rfl (by decide) rfl ?_
    refine AtL.noF rfl rfl rfl (by decide) rfl ?_
    refine AtL.pures hT 1 _ _ _ _ rfl ?_
    refine AtL.nil ?_
    exact AtE.then_n ((HK1 _ () _ H).pickP (ts := [40, 2, 3]) (is := [0, 1]) rfl rfl (by decide) rfl)
   ·
    refine AtL.yes rfl rfl rfl ?_
    refine AtL.pures hT 1 _ _ _ _ rfl ?_
    refine AtL.yes rfl rfl rfl ?_
    refine AtL.q rfl (Quiet1.loadP (i := 1) hT rfl rfl rfl rfl rfl rfl) ?_
    refine AtL.yes rfl rfl rfl ?_
    refine AtL.pures hT 1 _ _ _ _ rfl ?_
    refine AtL.yes rfl rfl rfl ?_
    refine AtL.q rfl (Quiet1.loadP (i := 0) hT rfl rfl rfl rfl rfl rfl) ?_
    refine AtL.yes rfl rfl rfl ?_
    refine AtL.pures hT 1 _ _ _ _ rfl ?_
    refine AtL.pures hT 2 _ _ _ _ rfl ?_
    refine AtL.splitB (t := 18) H rfl (fun H => ?_) (fun H => ?_)
    ·
     refine AtL.noF rfl rfl rfl (by decide) rfl ?_
     refine AtL.noF rfl rfl rfl (by decide) rfl ?_
     refine AtL.noF rfl rfl rfl (by decide) rfl ?_
     refine AtL.noF rfl rfl rfl (by decide) rfl ?_
     refine AtL.noF rfl rfl rfl (by decide) rfl ?_
     refine AtL.pures hT 2 _ _ _ _ rfl ?_
     refine AtL.noF rfl rfl rfl (by decide) rfl ?_
     refine AtL.noF rfl rfl rfl (by decide) rfl ?_
     refine AtL.noF rfl rfl rfl (by decide) rfl ?_
     refine AtL.noF rfl rfl rfl (by decide) rfl ?_
     refine AtL.noF rfl rfl rfl (by decide) rfl ?_
     refine AtL.pures hT 2 _ _ _ _ rfl ?_
     refine AtL.noF rfl rfl rfl (by decide) rfl ?_
     refine AtL.noF rfl rfl rfl (by decide) rfl ?_
     refine AtL.noF rfl rfl rfl (by decide) rfl ?_
     refine AtL.noF rfl rfl rfl (by decide) rfl ?_
     refine AtL.noF rfl rfl rfl (by decide) rfl ?_
     refine AtL.noF rfl rfl rfl (by decide) rfl ?_
     refine AtL.noF rfl rfl rfl (by decide) rfl ?_
     refine AtL.pures hT 1 _ _ _ _ rfl ?_
     refine AtL.nil ?_
     exact AtE.then_n ((HK1 _ () _ H).pickP (ts := [40, 2, 3]) (is := [0, 1]) rfl rfl (by decide) rfl)
    ·
     refine AtL.yes rfl rfl rfl ?_
     refine AtL.pures hT 1 _ _ _ _ rfl ?_
     refine AtL.yes rfl rfl rfl ?_
     refine AtL.q rfl (Quiet1.loadP (i := 1) hT rfl rfl rfl rfl rfl rfl) ?_
     refine AtL.yes rfl rfl rfl ?_
     refine AtL.pures hT 1 _ _ _ _ rfl ?_
     refine AtL.yes rfl rfl rfl ?_
     refine AtL.q rfl (Quiet1.loadP (i := 0) hT rfl rfl rfl rfl rfl rfl) ?_
     refine AtL.yes rfl rfl rfl ?_
     refine AtL.pures hT 1 _ _ _ _ rfl ?_
     refine AtL.pures hT 2 _ _ _ _ rfl ?_
     refine AtL.splitB (t := 25) H rfl (fun H => ?_) (fun H => ?_)
     ·
      refine AtL.noF rfl rfl rfl (by decide) rfl ?_
      refine AtL.noF rfl rfl rfl (by decide) rfl ?_
      refine AtL.noF rfl rfl rfl (by decide) rfl ?_
      refine AtL.noF rfl rfl rfl (by decide) rfl ?_
      refine AtL.noF rfl rfl rfl (by decide) rfl ?_
      refine AtL.pures hT 2 _ _ _ _ rfl ?_
      refine AtL.noF rfl rfl rfl (by decide) rfl ?_
      refine AtL.noF rfl rfl rfl (by decide) rfl ?_
      refine AtL.noF rfl rfl rfl (by decide) rfl ?_
      refine AtL.noF rfl rfl rfl (by decide) rfl ?_
      refine AtL.noF rfl rfl rfl (by decide) rfl ?_
      refine AtL.noF rfl rfl rfl (by decide) rfl ?_
      refine AtL.noF rfl rfl rfl (by decide) rfl ?_
      refine AtL.pures hT 1 _ _ _ _ rfl ?_
      refine AtL.nil ?_
      exact AtE.then_n ((HK1 _ () _ H).pickP (ts := [40, 2, 3]) (is := [0, 1]) rfl rfl (by decide) rfl)
     ·
      refine AtL.yes rfl rfl rfl ?_
      refine AtL.pures hT 1 _ _ _ _ rfl ?_
      refine AtL.yes rfl rfl rfl ?_
      refine AtL.q rfl (Quiet1.loadP (i := 1) hT rfl rfl rfl rfl rfl rfl) ?_
      refine AtL.yes rfl rfl rfl ?_
      refine AtL.pures hT 1 _ _ _ _ rfl ?_
      refine AtL.yes rfl rfl rfl ?_
      refine AtL.q rfl (Quiet1.loadP (i := 0) hT rfl rfl rfl rfl rfl rfl) ?_
      refine AtL.yes rfl rfl rfl ?_
      refine AtL.pures hT 1 _ _ _ _ rfl ?_
      refine AtL.pures hT 2 _ _ _ _ rfl ?_
      refine AtL.splitB (t := 32) H rfl (fun H => ?_) (fun H => ?_)
      ·
       refine AtL.noF rfl rfl rfl (by decide) rfl ?_
       refine AtL.noF rfl rfl rfl (by decide) rfl ?_
       refine AtL.noF rfl rfl rfl (by decide) rfl ?_
       refine AtL.noF rfl rfl rfl (by decide) rfl ?_
       refine AtL.noF rfl rfl rfl (by decide) rfl ?_
       refine AtL.noF rfl rfl rfl (by decide) rfl ?_
       refine AtL.noF rfl rfl rfl (by decide) rfl ?_
       refine AtL.pures hT 1 _ _ _ _ rfl ?_
       refine AtL.nil ?_
       exact AtE.then_n ((HK1 _ () _ H).pickP (ts := [40, 2, 3]) (is := [0, 1]) rfl rfl (by decide) rfl)
      ·
       refine AtL.yes rfl rfl rfl ?_
       refine AtL.pures hT 1 _ _ _ _ rfl ?_
       refine AtL.yes rfl rfl rfl ?_
       refine AtL.q rfl (Quiet1.loadP (i := 1) hT rfl rfl rfl rfl rfl rfl) ?_
       refine AtL.yes rfl rfl rfl ?_
       refine AtL.pures hT 1 _ _ _ _ rfl ?_
       refine AtL.yes rfl rfl rfl ?_
       refine AtL.pures hT 1 _ _ _ _ rfl ?_
       refine AtL.yes rfl rfl rfl ?_
       refine AtL.q rfl (Quiet1.loadP (i := 0) hT rfl rfl rfl rfl rfl rfl) ?_
       refine AtL.yes rfl rfl rfl ?_
       refine AtL.pures hT 1 _ _ _ _ rfl ?_
       refine AtL.yes rfl rfl rfl ?_
       refine AtL.pures hT 1 _ _ _ _ rfl ?_
       refine AtL.pures hT 1 _ _ _ _ rfl ?_
       refine AtL.nil ?_
       exact AtE.then_n ((HK1 _ () _ H).pickP (ts := [40, 2, 3]) (is := [0, 1]) rfl rfl (by decide) rfl)
theorem lift_ref24uInt (n : Int) (w : World) (m : Heap) (hr : Rel ⟨m, []⟩ w.heap) (S : ByteArray → Heap → Prop) (H : ref24uInt n m S) :
    Calls Tryd.prog 17 #[Value.int .i64 n] w (Post ⟨w, m⟩ Value.string S) := by
  refine Calls.lift (args := [Value.int .i64 n]) Tryd.func17 rfl Tryd.ntmps17 (Nat.le_of_ble_eq_true rfl) hr (ref24uInt n m S) H (fun H => ?_)
  refine AtC.pick (ts := [0]) rfl ?_
  unfold ref24uInt at H
  refine AtC.seqR ?_
  refine AtL.pures hT 1 _ _ _ _ rfl ?_
  refine AtL.nil ?_
  refine AtE.then_n (AtE.go ?_)
  refine AtC.seqR ?_
  refine AtL.pures hT 3 _ _ _ _ rfl ?_
  replace H := H _ rfl
  refine AtL.nil ?_
  refine AtE.then_n (AtE.go ?_)
  refine AtC.joinSeq (β := Unit) (fun (t0 : Int) (bb : Unit) => [(3, Value.int .u64 t0)]) (fun (t0 : Int) (bb : Unit) => []) [0] [] H (by exact rfl) (by exact rfl) (fun t0 bb h0 H => ?_) (fun J1 H HK1 => ?_)
  ·
   refine AtC.seqR ?_
   refine AtL.pures hT 1 _ _ _ _ rfl ?_
   replace H := H _ rfl
   refine AtL.nil ?_
   refine AtE.then_n (AtE.go ?_)
   refine AtC.seq ?_
   refine AtC.seqR ?_
   refine AtL.pures hT 1 _ _ _ _ rfl ?_
   refine AtL.nil ?_
   refine AtE.then_n (AtE.go ?_)
   refine AtC.block ?_
   refine AtC.loopM (fun (s0u1 : Int × ByteArray × Int) => [(3, Value.int .u64 s0u1.1), (4, Value.string s0u1.2.1), (5, Value.int .i64 s0u1.2.2)]) (fun (s0u1 : Int × ByteArray × Int) => []) [0] [3, 4, 5, 0] [] [] H (by exact rfl) (by exact rfl) (by exact rfl) (by decide) (by exact rfl) (fun Kp2 s0u1 h0u1 H Q2 HK2 => ?_)
   refine AtC.seq ?_
   refine AtC.joinSeq (β := Unit) (fun (t0u1 : Bool) (bb_1 : Unit) => [(24, Value.bool t0u1)]) (fun (t0u1 : Bool) (bb_1 : Unit) => []) [0, 3, 4, 5] [] H (by exact rfl) (by exact rfl) (fun t0u1 bb_1 h0u2 H => ?_) (fun J3 H HK3 => ?_)
   ·
    refine AtC.condB H rfl (fun H => ?_) (fun H => ?_)
    ·
     refine AtC.skip ?_
     refine AtE.then_n (AtE.go ?_)
     refine AtC.seq ?_
     refine AtC.block ?_
     refine AtC.seqR ?_
     refine AtL.pures hT 5 _ _ _ _ rfl ?_
     refine AtL.slStrK (hT := hT) H rfl rfl rfl rfl rfl rfl (fun v H => ?_)
     refine AtL.pures hT 1 _ _ _ _ rfl ?_
     obtain ⟨hd4, H⟩ := H
     refine AtL.q rfl (Quiet1.concat rfl rfl rfl hd4) ?_
     refine AtL.pures hT 1 _ _ _ _ rfl ?_
     replace H := H _ rfl
     refine AtL.nil ?_
     refine AtE.then_n (AtE.go ?_)
     refine AtC.region ?_
     refine AtL.pures hT 3 _ _ _ _ rfl ?_
     replace H := H _ rfl
     refine AtL.nil ?_
     refine AtE.blk_n ?_
     refine AtE.then_n (AtE.go ?_)
     refine AtC.region ?_
     refine AtL.pures hT 3 _ _ _ _ rfl ?_
     replace H := H _ rfl
     refine AtL.nil ?_
     exact AtE.then_n ((HK2 _ _ H).pickP (ts := [3, 4, 5, 0]) (is := []) rfl rfl (by decide) rfl)
    ·
     refine AtC.exit ?_
     refine AtE.then_x ?_
     refine AtE.then_x ?_
     refine AtE.blk_hit ?_
     refine AtE.then_n (AtE.go ?_)
     refine AtC.seq ?_
     refine AtC.seqR ?_
     refine AtL.pures hT 2 _ _ _ _ rfl ?_
     refine AtL.nil ?_
     refine AtE.then_n (AtE.go ?_)
     refine AtC.condB H rfl (fun H => ?_) (fun H => ?_)
     ·
      refine AtC.seqR ?_
      refine AtL.pures hT 1 _ _ _ _ rfl ?_
      obtain ⟨hd5, H⟩ := H
      refine AtL.q rfl (Quiet1.concat rfl rfl rfl hd5) ?_
      refine AtL.pures hT 1 _ _ _ _ rfl ?_
      refine AtL.nil ?_
      refine AtE.then_n (AtE.go ?_)
      refine AtC.ret ?_
      refine AtE.then_r ?_
      exact AtE.retN (rs := [.tmp 2]) rfl (ResAll.cons (ResAt.tmp rfl) ResAll.nil) rfl H
     ·
      refine AtC.skip ?_
      refine AtE.then_n (AtE.go ?_)
      refine AtC.seqR ?_
      refine AtL.pures hT 2 _ _ _ _ rfl ?_
      refine AtL.nil ?_
      refine AtE.then_n (AtE.go ?_)
      refine AtC.ret ?_
      exact AtE.retN (rs := [.tmp 2]) rfl (ResAll.cons (ResAt.tmp rfl) ResAll.nil) rfl H
   ·
    refine AtC.region ?_
    refine AtL.pures hT 3 _ _ _ _ rfl ?_
    refine AtL.splitB (t := 17) H rfl (fun H => ?_) (fun H => ?_)
    ·
     refine AtL.yes rfl rfl rfl ?_
     refine AtL.pures hT 1 _ _ _ _ rfl ?_
     refine AtL.yes rfl rfl rfl ?_
     refine AtL.pures hT 1 _ _ _ _ rfl ?_
     refine AtL.yes rfl rfl rfl ?_
     refine AtL.pures hT 1 _ _ _ _ rfl ?_
     refine AtL.splitB (t := 20) H rfl (fun H => ?_) (fun H => ?_)
     ·
      refine AtL.noF rfl rfl rfl (by decide) rfl ?_
      refine AtL.noF rfl rfl rfl (by decide) rfl ?_
      refine AtL.yes rfl rfl rfl ?_
      refine AtL.pures hT 1 _ _ _ _ rfl ?_
      refine AtL.pures hT 1 _ _ _ _ rfl ?_
      refine AtL.nil ?_
      exact AtE.then_n ((HK3 _ () _ H).pickP (ts := [24, 0, 3, 4, 5]) (is := []) rfl rfl (by decide) rfl)
     ·
      refine AtL.yes rfl rfl rfl ?_
      refine AtL.pures hT 1 _ _ _ _ rfl ?_
      refine AtL.yes rfl rfl rfl ?_
      refine AtL.pures hT 1 _ _ _ _ rfl ?_
      refine AtL.yes rfl rfl rfl ?_
      refine AtL.pures hT 1 _ _ _ _ rfl ?_
      refine AtL.pures hT 1 _ _ _ _ rfl ?_
      refine AtL.nil ?_
      exact AtE.then_n ((HK3 _ () _ H).pickP (ts := [24, 0, 3, 4, 5]) (is := []) rfl rfl (by decide) rfl)
    ·
     refine AtL.noF rfl rfl rfl (by decide) rfl ?_
     refine AtL.noF rfl rfl rfl (by decide) rfl ?_
     refine AtL.noF rfl rfl rfl (by decide) rfl ?_
     refine AtL.noU rfl rfl rfl rfl ?_
     refine AtL.noU rfl rfl rfl rfl ?_
     refine AtL.noF rfl rfl rfl (by decide) rfl ?_
     refine AtL.pures hT 1 _ _ _ _ rfl ?_
     refine AtL.nil ?_
     exact AtE.then_n ((HK3 _ () _ H).pickP (ts := [24, 0, 3, 4, 5]) (is := []) rfl rfl (by decide) rfl)
  ·
   refine AtC.seqR ?_
   refine AtL.pures hT 2 _ _ _ _ rfl ?_
   refine AtL.nil ?_
   refine AtE.then_n (AtE.go ?_)
   refine AtC.condB H rfl (fun H => ?_) (fun H => ?_)
   ·
    refine AtC.region ?_
    refine AtL.pures hT 6 _ _ _ _ rfl ?_
    replace H := H _ rfl
    refine AtL.nil ?_
    exact AtE.then_n ((HK1 _ () _ H).pickP (ts := [3, 0]) (is := []) rfl rfl (by decide) rfl)
   ·
    refine AtC.skip ?_
    exact AtE.then_n ((HK1 _ () _ H).pickP (ts := [3, 0]) (is := []) rfl rfl (by decide) rfl)
theorem lift_ref24uLine (e : Int × Int × Sl × Int × Int) (w : World) (m : Heap) (hr : Rel ⟨m, []⟩ w.heap) (S : ByteArray → Heap → Prop) (H : ref24uLine e m S) :
    Calls Tryd.prog 8 #[Value.agg (C_i64ui64usl_i64ui64 e).toArray] w (Post ⟨w, m⟩ Value.string S) := by
  refine Calls.lift (args := [Value.agg (C_i64ui64usl_i64ui64 e).toArray]) Tryd.func8 rfl Tryd.ntmps8 (Nat.le_of_ble_eq_true rfl) hr (ref24uLine e m S) H (fun H => ?_)
  refine AtC.pick (ts := [0]) rfl ?_
  unfold ref24uLine at H
  refine AtC.seqR ?_
  refine AtL.e rfl (EffX.boxP (cs := [_, _, _, _, _]) rfl rfl rfl H) ?_
  rintro _ _ ⟨b, _, rfl, rfl, _, H⟩
  replace H := H.self
  refine AtL.pures hT 1 _ _ _ _ rfl ?_
  refine AtL.nil ?_
  refine AtE.then_n (AtE.go ?_)
  refine AtC.seq ?_
  refine AtC.seqR ?_
  refine AtL.pures hT 1 _ _ _ _ rfl ?_
  refine AtL.q rfl (Quiet1.loadP (i := 0) hT rfl rfl rfl rfl rfl rfl) ?_
  refine AtL.pures hT 1 _ _ _ _ rfl ?_
  refine AtL.nil ?_
  refine AtE.then_n (AtE.go ?_)
  refine AtC.condB H rfl (fun H => ?_) (fun H => ?_)
  ·
   refine AtC.seqR ?_
   refine AtL.pures hT 1 _ _ _ _ rfl ?_
   refine AtL.q rfl (Quiet1.loadP (i := 0) hT rfl rfl rfl rfl rfl rfl) ?_
   refine AtL.e rfl (EffX.call (f := 17) (sh := fun h => ref24uInt _ h _) (H0 := H) rfl Tryd.call17 rfl (hl := fun w m hr hw => lift_ref24uInt _ w m hr _ hw)) ?_
   rintro _ _ ⟨v, h0u1, rfl, rfl, H⟩
   obtain ⟨hd0, H⟩ := H
   refine AtL.q rfl (Quiet1.concat rfl rfl rfl hd0) ?_
   refine AtL.pures hT 1 _ _ _ _ rfl ?_
   refine AtL.nil ?_
   refine AtE.then_n (AtE.go ?_)
   refine AtC.ret ?_
   refine AtE.then_r ?_
   exact AtE.retN (rs := [.tmp 2]) rfl (ResAll.cons (ResAt.tmp rfl) ResAll.nil) rfl H
  ·
   refine AtC.skip ?_
   refine AtE.then_n (AtE.go ?_)
   refine AtC.seq ?_
   refine AtC.seqR ?_
   refine AtL.pures hT 1 _ _ _ _ rfl ?_
   refine AtL.q rfl (Quiet1.loadP (i := 0) hT rfl rfl rfl rfl rfl rfl) ?_
   refine AtL.pures hT 1 _ _ _ _ rfl ?_
   refine AtL.nil ?_
   refine AtE.then_n (AtE.go ?_)
   refine AtC.condB H rfl (fun H => ?_) (fun H => ?_)
   ·
    refine AtC.seqR ?_
    refine AtL.pures hT 1 _ _ _ _ rfl ?_
    refine AtL.q rfl (Quiet1.loadP (i := 0) hT rfl rfl rfl rfl rfl rfl) ?_
    refine AtL.e rfl (EffX.call (f := 17) (sh := fun h => ref24uInt _ h _) (H0 := H) rfl Tryd.call17 rfl (hl := fun w m hr hw => lift_ref24uInt _ w m hr _ hw)) ?_
    rintro _ _ ⟨v_1, h0u2, rfl, rfl, H⟩
    obtain ⟨hd1, H⟩ := H
    refine AtL.q rfl (Quiet1.concat rfl rfl rfl hd1) ?_
    refine AtL.pures hT 1 _ _ _ _ rfl ?_
    refine AtL.nil ?_
    refine AtE.then_n (AtE.go ?_)
    refine AtC.ret ?_
    refine AtE.then_r ?_
    exact AtE.retN (rs := [.tmp 2]) rfl (ResAll.cons (ResAt.tmp rfl) ResAll.nil) rfl H
   ·
    refine AtC.skip ?_
    refine AtE.then_n (AtE.go ?_)
    refine AtC.seq ?_
    refine AtC.seqR ?_
    refine AtL.pures hT 1 _ _ _ _ rfl ?_
    refine AtL.q rfl (Quiet1.loadP (i := 0) hT rfl rfl rfl rfl rfl rfl) ?_
    refine AtL.pures hT 1 _ _ _ _ rfl ?_
    refine AtL.nil ?_
    refine AtE.then_n (AtE.go ?_)
    refine AtC.condB H rfl (fun H => ?_) (fun H => ?_)
    ·
     refine AtC.seqR ?_
     refine AtL.pures hT 1 _ _ _ _ rfl ?_
     refine AtL.nil ?_
     refine AtE.then_n (AtE.go ?_)
     refine AtC.ret ?_
     refine AtE.then_r ?_
     exact AtE.retN (rs := [.tmp 2]) rfl (ResAll.cons (ResAt.tmp rfl) ResAll.nil) rfl H
    ·
     refine AtC.skip ?_
     refine AtE.then_n (AtE.go ?_)
     refine AtC.seqR ?_
     refine AtL.pures hT 1 _ _ _ _ rfl ?_
     replace H := H _ rfl
     refine AtL.nil ?_
     refine AtE.then_n (AtE.go ?_)
     refine AtC.seq ?_
     refine AtC.seqR ?_
     refine AtL.pures hT 1 _ _ _ _ rfl ?_
     refine AtL.nil ?_
     refine AtE.then_n (AtE.go ?_)
     refine AtC.block ?_
     refine AtC.loopM (fun (s0u1 : ByteArray × Int) => [(3, Value.string s0u1.1), (4, Value.int .i64 s0u1.2)]) (fun (s0u1 : ByteArray × Int) => []) [1] [3, 4, 1] [0] [0] H (by exact rfl) (by exact rfl) (by exact rfl) (by decide) (by exact rfl) (fun Kp3 s0u1 h0u3 H Q3 HK3 => ?_)
     refine AtC.seq ?_
     refine AtC.seqR ?_
     refine AtL.pures hT 2 _ _ _ _ rfl ?_
     refine AtL.q rfl (Quiet1.loadP (i := 0) hT rfl rfl rfl rfl rfl rfl) ?_
     refine AtL.pures hT 2 _ _ _ _ rfl ?_
     refine AtL.nil ?_
     refine AtE.then_n (AtE.go ?_)
     refine AtC.condB H rfl (fun H => ?_) (fun H => ?_)
     ·
      refine AtC.skip ?_
      refine AtE.then_n (AtE.go ?_)
      refine AtC.joinSeq (β := Unit) (fun (t0 : ByteArray) (bb : Unit) => [(3, Value.string t0)]) (fun (t0 : ByteArray) (bb : Unit) => []) [1, 4] [0] H (by exact rfl) (by exact rfl) (fun t0 bb h0u4 H => ?_) (fun J4 H HK4 => ?_)
      ·
       refine AtC.region ?_
       refine AtL.pures hT 3 _ _ _ _ rfl ?_
       replace H := H _ rfl
       refine AtL.nil ?_
       exact AtE.then_n ((HK3 _ _ H).pickP (ts := [3, 4, 1]) (is := [0]) rfl rfl (by decide) rfl)
      ·
       refine AtC.block ?_
       refine AtC.seqR ?_
       refine AtL.pures hT 1 _ _ _ _ rfl ?_
       refine AtL.q rfl (Quiet1.loadP (i := 0) hT rfl rfl rfl rfl rfl rfl) ?_
       refine AtL.pures hT 1 _ _ _ _ rfl ?_
       obtain ⟨a_, hc4, hd4, H⟩ := H
       refine AtL.q rfl (Quiet1.idxS (s := _) hT rfl rfl rfl rfl rfl hc4 hd4) ?_
       obtain ⟨v_2, hc5, H⟩ := H
       refine AtL.q rfl (Quiet1.load hT rfl rfl rfl hc5) ?_
       refine AtL.nil ?_
       refine AtE.then_n (AtE.go ?_)
       refine AtC.condB H rfl (fun H => ?_) (fun H => ?_)
       ·
        refine AtC.region ?_
        refine AtL.pures hT 1 _ _ _ _ rfl ?_
        obtain ⟨hd6, H⟩ := H
        refine AtL.q rfl (Quiet1.concat rfl rfl rfl hd6) ?_
        refine AtL.pures hT 1 _ _ _ _ rfl ?_
        replace H := H _ rfl
        refine AtL.nil ?_
        refine AtE.blk_n ?_
        exact AtE.then_n ((HK4 _ () _ H).pickP (ts := [3, 1, 4]) (is := [0]) rfl rfl (by decide) rfl)
       ·
        refine AtC.region ?_
        refine AtL.pures hT 1 _ _ _ _ rfl ?_
        obtain ⟨hd7, H⟩ := H
        refine AtL.q rfl (Quiet1.concat rfl rfl rfl hd7) ?_
        refine AtL.pures hT 1 _ _ _ _ rfl ?_
        replace H := H _ rfl
        refine AtL.nil ?_
        refine AtE.blk_n ?_
        exact AtE.then_n ((HK4 _ () _ H).pickP (ts := [3, 1, 4]) (is := [0]) rfl rfl (by decide) rfl)
     ·
      refine AtC.exit ?_
      refine AtE.then_x ?_
      refine AtE.then_x ?_
      refine AtE.blk_hit ?_
      refine AtE.then_n (AtE.go ?_)
      refine AtC.joinSeq (β := Unit) (fun (t0u1 : ByteArray) (bb_1 : Unit) => [(3, Value.string t0u1)]) (fun (t0u1 : ByteArray) (bb_1 : Unit) => []) [1] [0] H (by exact rfl) (by exact rfl) (fun t0u1 bb_1 h0u5 H => ?_) (fun J9 H HK9 => ?_)
      ·
       obtain ⟨hd9, H⟩ := H
       obtain ⟨hd10, H⟩ := H
       apply AtC.seqS [5, 10] [[], [], [], [], [], [], [5], [5], [], [], [5], [5, 10], [5, 10]] [[], [0], [0, 1], [], [3], [3, 4], [0, 1, 2, 3, 4, 5], [0, 1, 2, 3, 4, 5, 6], [], [8], [3, 4, 5, 8, 9], [0, 1, 2, 3, 4, 5, 6, 7, 8, 9, 10], [0, 1, 2, 3, 4, 5, 6, 7, 8, 9, 10, 11]] hmix (by kernel_rfl) [(40, _), (41, _), (42, _), (43, _), (44, _), (48, _), (49, _)] rfl 2 rfl
       refine Stg.go [0, 1, 2, 3, 4, 8, 9] [5] rfl rfl (QAll.cons (QOp.p hT rfl rfl rfl rfl rfl) (QAll.cons (QOp.q rfl rfl (Quiet1.concat rfl rfl rfl hd9) rfl rfl) (QAll.cons (QOp.q rfl rfl (Quiet1.concat rfl rfl rfl hd10) rfl rfl) (QAll.cons (QOp.p hT rfl rfl rfl rfl rfl) (QAll.cons (QOp.q rfl rfl (Quiet1.loadP (i := 0) hT rfl rfl rfl rfl rfl rfl) rfl rfl) (QAll.cons (QOp.p hT rfl rfl rfl rfl rfl) (QAll.cons (QOp.q rfl rfl (Quiet1.loadP (i := 0) hT rfl rfl rfl rfl rfl rfl) rfl rfl) QAll.nil))))))) ?_
       refine EAll.cons ?_ EAll.nil
       refine EOp.e rfl rfl rfl (EffX.call (f := 17) (sh := fun h => ref24uInt _ h _) (H0 := H) rfl Tryd.call17 rfl (hl := fun w m hr hw => lift_ref24uInt _ w m hr _ hw)) ?_
       rintro _ _ ⟨v_3, h0u6, rfl, rfl, H⟩
       obtain ⟨hd11, H⟩ := H
       obtain ⟨hd12, H⟩ := H
       apply Stg.next [(45, _), (46, _), (47, _)] rfl rfl
       refine Stg.go [0, 1, 2, 6, 7, 8, 9] [10] rfl rfl (QAll.cons (QOp.p hT rfl rfl rfl rfl rfl) (QAll.cons (QOp.q rfl rfl (Quiet1.concat rfl rfl rfl hd9) rfl rfl) (QAll.cons (QOp.q rfl rfl (Quiet1.concat rfl rfl rfl hd10) rfl rfl) (QAll.cons (QOp.q rfl rfl (Quiet1.concat rfl rfl rfl hd11) rfl rfl) (QAll.cons (QOp.q rfl rfl (Quiet1.concat rfl rfl rfl hd12) rfl rfl) (QAll.cons (QOp.p hT rfl rfl rfl rfl rfl) (QAll.cons (QOp.q rfl rfl (Quiet1.loadP (i := 0) hT rfl rfl rfl rfl rfl rfl) rfl rfl) QAll.nil))))))) ?_
       refine EAll.cons ?_ EAll.nil
       refine EOp.e rfl rfl rfl (EffX.call (f := 17) (sh := fun h => ref24uInt _ h _) (H0 := H) rfl Tryd.call17 rfl (hl := fun w m hr hw => lift_ref24uInt _ w m hr _ hw)) ?_
       rintro _ _ ⟨v_4, h0u7, rfl, rfl, H⟩
       obtain ⟨hd13, H⟩ := H
       apply Stg.next [(50, _), (51, _), (2, _)] rfl rfl
       refine Stg.fin [0, 1, 2, 6, 7, 11, 12] rfl rfl (QAll.cons (QOp.p hT rfl rfl rfl rfl rfl) (QAll.cons (QOp.q rfl rfl (Quiet1.concat rfl rfl rfl hd9) rfl rfl) (QAll.cons (QOp.q rfl rfl (Quiet1.concat rfl rfl rfl hd10) rfl rfl) (QAll.cons (QOp.q rfl rfl (Quiet1.concat rfl rfl rfl hd11) rfl rfl) (QAll.cons (QOp.q rfl rfl (Quiet1.concat rfl rfl rfl hd12) rfl rfl) (QAll.cons (QOp.q rfl rfl (Quiet1.concat rfl rfl rfl hd13) rfl rfl) (QAll.cons (QOp.p hT rfl rfl rfl rfl rfl) QAll.nil))))))) ?_
       refine AtE.then_n (AtE.go ?_)
       refine AtC.ret ?_
       exact AtE.retN (rs := [.tmp 2]) rfl (ResAll.cons (ResAt.tmp rfl) ResAll.nil) rfl H
      ·
       refine AtC.seqR ?_
       refine AtL.pures hT 2 _ _ _ _ rfl ?_
       refine AtL.nil ?_
       refine AtE.then_n (AtE.go ?_)
       refine AtC.condB H rfl (fun H => ?_) (fun H => ?_)
       ·
        refine AtC.region ?_
        refine AtL.pures hT 1 _ _ _ _ rfl ?_
        replace H := H _ rfl
        refine AtL.nil ?_
        exact AtE.then_n ((HK9 _ () _ H).pickP (ts := [3, 1]) (is := [0]) rfl rfl (by decide) rfl)
       ·
        refine AtC.skip ?_
        exact AtE.then_n ((HK9 _ () _ H).pickP (ts := [3, 1]) (is := [0]) rfl rfl (by decide) rfl)
theorem lift_ref24uTold (e : Int × Int × Sl × Int × Int) (w : World) (m : Heap) (hr : Rel ⟨m, []⟩ w.heap) (S : (Int × Int × Sl × Int × Int) → Heap → Prop) (H : ref24uTold e m S) :
    Calls Tryd.prog 10 #[Value.agg (C_i64ui64usl_i64ui64 e).toArray] w (Post ⟨w, m⟩ (fun r => Value.agg (C_i64ui64usl_i64ui64 r).toArray) S) := by
  refine Calls.lift (args := [Value.agg (C_i64ui64usl_i64ui64 e).toArray]) Tryd.func10 rfl Tryd.ntmps10 (Nat.le_of_ble_eq_true rfl) hr (ref24uTold e m S) H (fun H => ?_)
  refine AtC.pick (ts := [0]) rfl ?_
  unfold ref24uTold at H
  refine AtC.seqR ?_
  refine AtL.e rfl (EffX.boxP (cs := [_, _, _, _, _]) rfl rfl rfl H) ?_
  rintro _ _ ⟨b, _, rfl, rfl, _, H⟩
  refine AtL.e rfl (EffX.allocP (cs := [_, _, _, _, _]) hT rfl rfl H) ?_
  rintro _ _ ⟨b_1, _, rfl, rfl, _, H⟩
  refine AtL.nil ?_
  replace H := H.self
  refine AtE.then_n (AtE.go ?_)
  refine AtC.seq ?_
  refine AtC.seqR ?_
  refine AtL.pures hT 1 _ _ _ _ rfl ?_
  refine AtL.q rfl (Quiet1.loadP (i := 1) hT rfl rfl rfl rfl rfl rfl) ?_
  refine AtL.pures hT 1 _ _ _ _ rfl ?_
  refine AtL.nil ?_
  refine AtE.then_n (AtE.go ?_)
  refine AtC.condB H rfl (fun H => ?_) (fun H => ?_)
  ·
   refine AtC.seqR ?_
   refine AtL.pures hT 1 _ _ _ _ rfl ?_
   refine AtL.q rfl (Quiet1.loadP (i := 1) hT rfl rfl rfl rfl rfl rfl) ?_
   refine AtL.pures hT 1 _ _ _ _ rfl ?_
   refine AtL.q rfl (Quiet1.loadP (i := 1) hT rfl rfl rfl rfl rfl rfl) ?_
   refine AtL.pures hT 1 _ _ _ _ rfl ?_
   refine AtL.q rfl (Quiet1.loadP (i := 1) hT rfl rfl rfl rfl rfl rfl) ?_
   refine AtL.pures hT 1 _ _ _ _ rfl ?_
   refine AtL.q rfl (Quiet1.loadP (i := 1) hT rfl rfl rfl rfl rfl rfl) ?_
   refine AtL.q rfl (Quiet1.build (cs := [_, _, _, _, _]) hT rfl rfl rfl rfl rfl rfl) ?_
   refine AtL.e rfl (EffX.storeSP (i := 0) (qv := [(_, [_, _, _, _, _]), (_, [_, _, _, _, _])]) hT rfl rfl rfl rfl rfl rfl rfl rfl rfl rfl) ?_
   rintro _ _ rfl
   refine AtL.nil ?_
   refine AtE.then_n (AtE.go ?_)
   refine AtC.ret ?_
   refine AtE.then_r ?_
   exact AtE.retN (rs := [.cell 2 24]) rfl (ResAll.cons (ResAt.cellSP (i := 0) (l := [_, _, _, _, _]) hT rfl rfl rfl rfl rfl rfl rfl) ResAll.nil) rfl H
  ·
   refine AtC.skip ?_
   refine AtE.then_n (AtE.go ?_)
   refine AtC.seqR ?_
   refine AtL.pures hT 1 _ _ _ _ rfl ?_
   refine AtL.q rfl (Quiet1.loadP (i := 1) hT rfl rfl rfl rfl rfl rfl) ?_
   refine AtL.pures hT 1 _ _ _ _ rfl ?_
   refine AtL.q rfl (Quiet1.loadP (i := 1) hT rfl rfl rfl rfl rfl rfl) ?_
   refine AtL.q rfl (Quiet1.build (cs := [_, _, _, _, _]) hT rfl rfl rfl rfl rfl rfl) ?_
   refine AtL.e rfl (EffX.storeSP (i := 0) (qv := [(_, [_, _, _, _, _]), (_, [_, _, _, _, _])]) hT rfl rfl rfl rfl rfl rfl rfl rfl rfl rfl) ?_
   rintro _ _ rfl
   refine AtL.nil ?_
   refine AtE.then_n (AtE.go ?_)
   refine AtC.ret ?_
   exact AtE.retN (rs := [.cell 2 24]) rfl (ResAll.cons (ResAt.cellSP (i := 0) (l := [_, _, _, _, _]) hT rfl rfl rfl rfl rfl rfl rfl) ResAll.nil) rfl H
theorem lift_law24uTaleReads (s0 : ByteArray) (w : World) (m : Heap) (hr : Rel ⟨m, []⟩ w.heap) (S : Bool → Heap → Prop) (H : law24uTaleReads s0 m S) :
    Calls Tryd.prog 4 #[Value.string s0] w (Post ⟨w, m⟩ Value.bool S) := by
  refine Calls.lift (args := [Value.string s0]) Tryd.func4 rfl Tryd.ntmps4 (Nat.le_of_ble_eq_true rfl) hr (law24uTaleReads s0 m S) H (fun H => ?_)
  refine AtC.pick (ts := [0]) rfl ?_
  unfold law24uTaleReads at H
  refine AtC.seqR ?_
  refine AtL.pures hT 1 _ _ _ _ rfl ?_
  refine AtL.nil ?_
  refine AtE.then_n (AtE.go ?_)
  refine AtC.seq ?_
  refine AtC.seqR ?_
  refine AtL.e rfl (EffX.call (f := 5) (sh := fun h => law24uspeaks h _) (H0 := H) rfl Tryd.call5 rfl (hl := fun w m hr hw => lift_law24uspeaks  w m hr _ hw)) ?_
  rintro _ _ ⟨v, h0, rfl, rfl, H⟩
  refine AtL.pures hT 1 _ _ _ _ rfl ?_
  refine AtL.nil ?_
  refine AtE.then_n (AtE.go ?_)
  refine AtC.condB H rfl (fun H => ?_) (fun H => ?_)
  ·
   refine AtC.seqR ?_
   refine AtL.pures hT 1 _ _ _ _ rfl ?_
   refine AtL.nil ?_
   refine AtE.then_n (AtE.go ?_)
   refine AtC.ret ?_
   refine AtE.then_r ?_
   exact AtE.retN (rs := [.tmp 2]) rfl (ResAll.cons (ResAt.tmp rfl) ResAll.nil) rfl H
  ·
   refine AtC.skip ?_
   refine AtE.then_n (AtE.go ?_)
   refine AtC.seq ?_
   refine AtC.seqR ?_
   refine AtL.pures hT 3 _ _ _ _ rfl ?_
   refine AtL.nil ?_
   refine AtE.then_n (AtE.go ?_)
   refine AtC.condB H rfl (fun H => ?_) (fun H => ?_)
   ·
    refine AtC.seqR ?_
    refine AtL.pures hT 1 _ _ _ _ rfl ?_
    refine AtL.nil ?_
    refine AtE.then_n (AtE.go ?_)
    refine AtC.ret ?_
    refine AtE.then_r ?_
    exact AtE.retN (rs := [.tmp 2]) rfl (ResAll.cons (ResAt.tmp rfl) ResAll.nil) rfl H
   ·
    refine AtC.skip ?_
    refine AtE.then_n (AtE.go ?_)
    refine AtC.seqR ?_
    refine AtL.pures hT 1 _ _ _ _ rfl ?_
    refine AtL.e rfl (EffX.call (f := 7) (sh := fun h => tale_Read _ h _) (H0 := H) rfl Tryd.call7 rfl (hl := fun w m hr hw => lift_tale_Read _ w m hr _ hw)) ?_
    rintro _ _ ⟨v_1, h0u1, rfl, rfl, H⟩
    refine AtL.pures hT 3 _ _ _ _ rfl ?_
    refine AtL.e rfl (EffX.allocP (cs := [_, _, _, _, _]) hT rfl rfl H) ?_
    rintro _ _ ⟨b, _, rfl, rfl, _, H⟩
    replace H := H.self
    refine AtL.e rfl (EffX.storeSP (i := 0) (qv := [(_, [_, _, _, _, _])]) hT rfl rfl rfl rfl rfl rfl rfl rfl rfl rfl) ?_
    rintro _ _ rfl
    refine AtL.pures hT 1 _ _ _ _ rfl ?_
    refine AtL.nil ?_
    refine AtE.then_n (AtE.go ?_)
    refine AtC.seq ?_
    refine AtC.seqR ?_
    refine AtL.pures hT 2 _ _ _ _ rfl ?_
    refine AtL.nil ?_
    refine AtE.then_n (AtE.go ?_)
    refine AtC.condB H rfl (fun H => ?_) (fun H => ?_)
    ·
     refine AtC.joinSeq (β := Unit) (fun (t0 : Bool) (bb : Unit) => [(2, Value.bool t0)]) (fun (t0 : Bool) (bb : Unit) => []) [] [] H (by exact rfl) (by exact rfl) (fun t0 bb h0u3 H => ?_) (fun J1 H HK1 => ?_)
     ·
      refine AtC.ret ?_
      refine AtE.then_r ?_
      exact AtE.retN (rs := [.tmp 2]) rfl (ResAll.cons (ResAt.tmp rfl) ResAll.nil) rfl H
     ·
      refine AtC.region ?_
      refine AtL.pures hT 3 _ _ _ _ rfl ?_
      refine AtL.splitB (t := 19) H rfl (fun H => ?_) (fun H => ?_)
      ·
       refine AtL.yes rfl rfl rfl ?_
       refine AtL.q rfl (Quiet1.loadSP (i := 0) (l := [_, _, _, _, _]) hT rfl rfl rfl rfl rfl rfl rfl rfl) ?_
       refine AtL.yes rfl rfl rfl ?_
       refine AtL.q rfl (Quiet1.build (cs := [_, _, _, _, _]) hT rfl rfl rfl rfl rfl rfl) ?_
       refine AtL.yes rfl rfl rfl ?_
       refine AtL.e rfl (EffX.call (f := 9) (sh := fun h => ref24uSame _ _ h _) (H0 := H) rfl Tryd.call9 rfl (hl := fun w m hr hw => lift_ref24uSame _ _ w m hr _ hw)) ?_
       rintro _ _ ⟨v_2, h0u4, rfl, rfl, H⟩
       refine AtL.pures hT 2 _ _ _ _ rfl ?_
       refine AtL.nil ?_
       exact AtE.then_n ((HK1 _ () _ H).pickP (ts := [2]) (is := []) rfl rfl (by decide) rfl)
      ·
       refine AtL.noF rfl rfl rfl (by decide) rfl ?_
       refine AtL.noF rfl rfl rfl (by decide) rfl ?_
       refine AtL.noF rfl rfl rfl (by decide) rfl ?_
       refine AtL.pures hT 2 _ _ _ _ rfl ?_
       refine AtL.nil ?_
       exact AtE.then_n ((HK1 _ () _ H).pickP (ts := [2]) (is := []) rfl rfl (by decide) rfl)
    ·
     refine AtC.skip ?_
     refine AtE.then_n (AtE.go ?_)
     refine AtC.joinSeq (β := Unit) (fun (t0u1 : Bool) (bb_1 : Unit) => [(2, Value.bool t0u1)]) (fun (t0u1 : Bool) (bb_1 : Unit) => []) [] [] H (by exact rfl) (by exact rfl) (fun t0u1 bb_1 h0u5 H => ?_) (fun J2 H HK2 => ?_)
     ·
      refine AtC.ret ?_
      exact AtE.retN (rs := [.tmp 2]) rfl (ResAll.cons (ResAt.tmp rfl) ResAll.nil) rfl H
     ·
      rcases iteB.cases H with ⟨hb2, H⟩ | ⟨hb2, H⟩
      ·
       apply AtC.stages [4, 11, 12] [[], [], [], [], [], [], [4], [4], [4], [4], [4], [4], [4, 11], [4, 11, 12], [4, 11, 12]] [[], [0], [0, 1], [0, 1, 2], [0, 1, 2, 3], [0, 1, 2], [0, 1, 2, 3, 4, 5], [0, 1, 2, 3, 4, 5, 6], [0, 1, 2, 3, 4, 5, 6, 7], [0, 1, 2, 3, 4, 5, 6, 7, 8], [0, 1, 2, 3, 4, 5, 6, 7, 8], [0, 1, 2, 3, 4, 5, 6, 7, 8, 10], [0, 1, 2, 3, 4, 5, 6, 7, 8, 9, 10, 11], [0, 1, 2, 3, 4, 5, 6, 7, 8, 9, 10, 11, 12], [0, 1, 2, 3, 4, 5, 6, 7, 8, 9, 10, 11, 12, 13]] hmix (by kernel_rfl) [(24, _), (25, _), (26, _), (27, _), (29, _)] rfl 3 rfl
       refine Stg.known (t := 26) rfl hb2 ?_
       refine Stg.go [0, 1, 2, 3, 5] [4] rfl rfl (QAll.cons (QOp.p hT rfl rfl rfl rfl rfl) (QAll.cons (QOp.p hT rfl rfl rfl rfl rfl) (QAll.cons (QOp.pk hT rfl rfl rfl rfl hb2 rfl) (QAll.cons (QOp.y rfl rfl rfl rfl (Quiet1.loadSP (i := 0) (l := [_, _, _, _, _]) hT rfl rfl rfl rfl rfl rfl rfl rfl) rfl rfl) (QAll.cons (QOp.yp hT rfl rfl rfl rfl rfl rfl rfl) QAll.nil))))) ?_
       refine EAll.cons ?_ EAll.nil
       refine EOp.y rfl rfl rfl rfl rfl (EffX.call (f := 8) (sh := fun h => ref24uLine _ h _) (H0 := H) rfl Tryd.call8 rfl (hl := fun w m hr hw => lift_ref24uLine _ w m hr _ hw)) ?_
       rintro _ _ ⟨v_3, h0u6, rfl, rfl, H⟩
       rcases iteB.cases H with ⟨hb3, H⟩ | ⟨hb3, H⟩
       ·
        apply Stg.next [(28, _), (30, _), (31, _), (32, _), (33, _), (34, _)] rfl rfl
        refine Stg.known (t := 32) rfl hb3 ?_
        refine Stg.go [5, 6, 7, 8, 9, 10] [11] rfl rfl (QAll.cons (QOp.yp hT rfl rfl rfl rfl rfl rfl rfl) (QAll.cons (QOp.yp hT rfl rfl rfl rfl rfl rfl rfl) (QAll.cons (QOp.p hT rfl rfl rfl rfl rfl) (QAll.cons (QOp.pk hT rfl rfl rfl rfl hb3 rfl) (QAll.cons (QOp.y rfl rfl rfl rfl (Quiet1.loadSP (i := 0) (l := [_, _, _, _, _]) hT rfl rfl rfl rfl rfl rfl rfl rfl) rfl rfl) (QAll.cons (QOp.y rfl rfl rfl rfl (Quiet1.loadSP (i := 0) (l := [_, _, _, _, _]) hT rfl rfl rfl rfl rfl rfl rfl rfl) rfl rfl) QAll.nil)))))) ?_
        refine EAll.cons ?_ EAll.nil
        refine EOp.y rfl rfl rfl rfl rfl (EffX.call (f := 10) (sh := fun h => ref24uTold _ h _) (H0 := H) rfl Tryd.call10 rfl (hl := fun w m hr hw => lift_ref24uTold _ w m hr _ hw)) ?_
        rintro _ _ ⟨v_4, h0u7, rfl, rfl, H⟩
        apply Stg.next [(35, _)] rfl rfl
        refine Stg.go [9] [12] rfl rfl (QAll.cons (QOp.y rfl rfl rfl rfl (Quiet1.loadSP (i := 0) (l := [_, _, _, _, _]) hT rfl rfl rfl rfl rfl rfl rfl rfl) rfl rfl) QAll.nil) ?_
        refine EAll.cons ?_ EAll.nil
        refine EOp.y rfl rfl rfl rfl rfl (EffX.call (f := 9) (sh := fun h => ref24uSame _ _ h _) (H0 := H) rfl Tryd.call9 rfl (hl := fun w m hr hw => lift_ref24uSame _ _ w m hr _ hw)) ?_
        rintro _ _ ⟨v_5, h0u8, rfl, rfl, H⟩
        apply Stg.next [(36, _), (37, _), (2, _)] rfl rfl
        refine Stg.fin [13, 14] rfl rfl (QAll.cons (QOp.p hT rfl rfl rfl rfl rfl) (QAll.cons (QOp.p hT rfl rfl rfl rfl rfl) QAll.nil)) ?_
        exact AtE.then_n ((HK2 _ () _ H).pickP (ts := [2]) (is := []) rfl rfl (by decide) rfl)
       ·
        apply Stg.next [(28, _), (30, _), (31, _), (32, _), (33, _), (34, _)] rfl rfl
        refine Stg.known (t := 32) rfl hb3 ?_
        refine Stg.go [5, 6, 7, 8, 9, 10] [11] rfl rfl (QAll.cons (QOp.yp hT rfl rfl rfl rfl rfl rfl rfl) (QAll.cons (QOp.yp hT rfl rfl rfl rfl rfl rfl rfl) (QAll.cons (QOp.p hT rfl rfl rfl rfl rfl) (QAll.cons (QOp.pk hT rfl rfl rfl rfl hb3 rfl) (QAll.cons (QOp.no rfl rfl rfl rfl (by decide) rfl rfl) (QAll.cons (QOp.no rfl rfl rfl rfl (by decide) rfl rfl) QAll.nil)))))) ?_
        refine EAll.cons ?_ EAll.nil
        refine EOp.no rfl rfl rfl rfl (by decide) rfl ?_
        apply Stg.next [(35, _)] rfl rfl
        refine Stg.go [9] [12] rfl rfl (QAll.cons (QOp.no rfl rfl rfl rfl (by decide) rfl rfl) QAll.nil) ?_
        refine EAll.cons ?_ EAll.nil
        refine EOp.no rfl rfl rfl rfl (by decide) rfl ?_
        apply Stg.next [(36, _), (37, _), (2, _)] rfl rfl
        refine Stg.fin [13, 14] rfl rfl (QAll.cons (QOp.p hT rfl rfl rfl rfl rfl) (QAll.cons (QOp.p hT rfl rfl rfl rfl rfl) QAll.nil)) ?_
        exact AtE.then_n ((HK2 _ () _ H).pickP (ts := [2]) (is := []) rfl rfl (by decide) rfl)
      ·
       apply AtC.stages [4, 11, 12] [[], [], [], [], [], [], [4], [4], [4], [4], [4], [4], [4, 11], [4, 11, 12], [4, 11, 12]] [[], [0], [0, 1], [0, 1, 2], [0, 1, 2, 3], [0, 1, 2], [0, 1, 2, 3, 4, 5], [0, 1, 2, 3, 4, 5, 6], [0, 1, 2, 3, 4, 5, 6, 7], [0, 1, 2, 3, 4, 5, 6, 7, 8], [0, 1, 2, 3, 4, 5, 6, 7, 8], [0, 1, 2, 3, 4, 5, 6, 7, 8, 10], [0, 1, 2, 3, 4, 5, 6, 7, 8, 9, 10, 11], [0, 1, 2, 3, 4, 5, 6, 7, 8, 9, 10, 11, 12], [0, 1, 2, 3, 4, 5, 6, 7, 8, 9, 10, 11, 12, 13]] hmix (by kernel_rfl) [(24, _), (25, _), (26, _), (27, _), (29, _)] rfl 3 rfl
       refine Stg.known (t := 26) rfl hb2 ?_
       refine Stg.go [0, 1, 2, 3, 5] [4] rfl rfl (QAll.cons (QOp.p hT rfl rfl rfl rfl rfl) (QAll.cons (QOp.p hT rfl rfl rfl rfl rfl) (QAll.cons (QOp.pk hT rfl rfl rfl rfl hb2 rfl) (QAll.cons (QOp.no rfl rfl rfl rfl (by decide) rfl rfl) (QAll.cons (QOp.no rfl rfl rfl rfl (by decide) rfl rfl) QAll.nil))))) ?_
       refine EAll.cons ?_ EAll.nil
       refine EOp.no rfl rfl rfl rfl (by decide) rfl ?_
       apply Stg.next [(28, _), (30, _), (31, _), (32, _), (33, _), (34, _)] rfl rfl
       refine Stg.go [5, 6, 7, 8, 9, 10] [11] rfl rfl (QAll.cons (QOp.no rfl rfl rfl rfl (by decide) rfl rfl) (QAll.cons (QOp.no rfl rfl rfl rfl (by decide) rfl rfl) (QAll.cons (QOp.p hT rfl rfl rfl rfl rfl) (QAll.cons (QOp.p hT rfl rfl rfl rfl rfl) (QAll.cons (QOp.no rfl rfl rfl rfl (by decide) rfl rfl) (QAll.cons (QOp.no rfl rfl rfl rfl (by decide) rfl rfl) QAll.nil)))))) ?_
       refine EAll.cons ?_ EAll.nil
       refine EOp.no rfl rfl rfl rfl (by decide) rfl ?_
       apply Stg.next [(35, _)] rfl rfl
       refine Stg.go [9] [12] rfl rfl (QAll.cons (QOp.no rfl rfl rfl rfl (by decide) rfl rfl) QAll.nil) ?_
       refine EAll.cons ?_ EAll.nil
       refine EOp.no rfl rfl rfl rfl (by decide) rfl ?_
       apply Stg.next [(36, _), (37, _), (2, _)] rfl rfl
       refine Stg.fin [13, 14] rfl rfl (QAll.cons (QOp.p hT rfl rfl rfl rfl rfl) (QAll.cons (QOp.p hT rfl rfl rfl rfl rfl) QAll.nil)) ?_
       exact AtE.then_n ((HK2 _ () _ H).pickP (ts := [2]) (is := []) rfl rfl (by decide) rfl)
theorem lift_law24uTaleLines (e : Int × Int × Sl × Int × Int) (w : World) (m : Heap) (hr : Rel ⟨m, []⟩ w.heap) (S : Bool → Heap → Prop) (H : law24uTaleLines e m S) :
    Calls Tryd.prog 3 #[Value.agg (C_i64ui64usl_i64ui64 e).toArray] w (Post ⟨w, m⟩ Value.bool S) := by
  refine Calls.lift (args := [Value.agg (C_i64ui64usl_i64ui64 e).toArray]) Tryd.func3 rfl Tryd.ntmps3 (Nat.le_of_ble_eq_true rfl) hr (law24uTaleLines e m S) H (fun H => ?_)
  refine AtC.pick (ts := [0]) rfl ?_
  unfold law24uTaleLines at H
  refine AtC.seqR ?_
  refine AtL.e rfl (EffX.boxP (cs := [_, _, _, _, _]) rfl rfl rfl H) ?_
  rintro _ _ ⟨b, _, rfl, rfl, _, H⟩
  replace H := H.self
  refine AtL.pures hT 1 _ _ _ _ rfl ?_
  refine AtL.nil ?_
  refine AtE.then_n (AtE.go ?_)
  refine AtC.seq ?_
  refine AtC.seqR ?_
  refine AtL.e rfl (EffX.call (f := 5) (sh := fun h => law24uspeaks h _) (H0 := H) rfl Tryd.call5 rfl (hl := fun w m hr hw => lift_law24uspeaks  w m hr _ hw)) ?_
  rintro _ _ ⟨v, h0u1, rfl, rfl, H⟩
  refine AtL.pures hT 1 _ _ _ _ rfl ?_
  refine AtL.nil ?_
  refine AtE.then_n (AtE.go ?_)
  refine AtC.condB H rfl (fun H => ?_) (fun H => ?_)
  ·
   refine AtC.seqR ?_
   refine AtL.pures hT 1 _ _ _ _ rfl ?_
   refine AtL.nil ?_
   refine AtE.then_n (AtE.go ?_)
   refine AtC.ret ?_
   refine AtE.then_r ?_
   exact AtE.retN (rs := [.tmp 2]) rfl (ResAll.cons (ResAt.tmp rfl) ResAll.nil) rfl H
  ·
   refine AtC.skip ?_
   refine AtE.then_n (AtE.go ?_)
   refine AtC.seq ?_
   refine AtC.seqR ?_
   refine AtL.pures hT 1 _ _ _ _ rfl ?_
   refine AtL.q rfl (Quiet1.loadP (i := 0) hT rfl rfl rfl rfl rfl rfl) ?_
   refine AtL.pures hT 2 _ _ _ _ rfl ?_
   refine AtL.nil ?_
   refine AtE.then_n (AtE.go ?_)
   refine AtC.condB H rfl (fun H => ?_) (fun H => ?_)
   ·
    refine AtC.seqR ?_
    refine AtL.pures hT 1 _ _ _ _ rfl ?_
    refine AtL.nil ?_
    refine AtE.then_n (AtE.go ?_)
    refine AtC.ret ?_
    refine AtE.then_r ?_
    exact AtE.retN (rs := [.tmp 2]) rfl (ResAll.cons (ResAt.tmp rfl) ResAll.nil) rfl H
   ·
    refine AtC.skip ?_
    refine AtE.then_n (AtE.go ?_)
    refine AtC.seqR ?_
    refine AtL.q rfl (Quiet1.loadSP (i := 0) (l := [_, _, _, _, _]) hT rfl rfl rfl rfl rfl rfl rfl rfl) ?_
    refine AtL.e rfl (EffX.call (f := 6) (sh := fun h => tale_Line _ h _) (H0 := H) rfl Tryd.call6 rfl (hl := fun w m hr hw => lift_tale_Line _ w m hr _ hw)) ?_
    rintro _ _ ⟨v_1, h0u2, rfl, rfl, H⟩
    refine AtL.pures hT 1 _ _ _ _ rfl ?_
    refine AtL.nil ?_
    refine AtE.then_n (AtE.go ?_)
    refine AtC.seqR ?_
    refine AtL.pures hT 1 _ _ _ _ rfl ?_
    refine AtL.e rfl (EffX.call (f := 7) (sh := fun h => tale_Read _ h _) (H0 := H) rfl Tryd.call7 rfl (hl := fun w m hr hw => lift_tale_Read _ w m hr _ hw)) ?_
    rintro _ _ ⟨v_2, h0u3, rfl, rfl, H⟩
    refine AtL.pures hT 3 _ _ _ _ rfl ?_
    refine AtL.e rfl (EffX.allocP (cs := [_, _, _, _, _]) hT rfl rfl H) ?_
    rintro _ _ ⟨b_1, _, rfl, rfl, _, H⟩
    replace H := H.self
    refine AtL.e rfl (EffX.storeSP (i := 0) (qv := [(_, [_, _, _, _, _]), (_, [_, _, _, _, _])]) hT rfl rfl rfl rfl rfl rfl rfl rfl rfl rfl) ?_
    rintro _ _ rfl
    refine AtL.pures hT 1 _ _ _ _ rfl ?_
    refine AtL.nil ?_
    refine AtE.then_n (AtE.go ?_)
    refine AtC.seq ?_
    refine AtC.seqR ?_
    refine AtL.pures hT 1 _ _ _ _ rfl ?_
    refine AtL.q rfl (Quiet1.loadSP (i := 1) (l := [_, _, _, _, _]) hT rfl rfl rfl rfl rfl rfl rfl rfl) ?_
    refine AtL.e rfl (EffX.call (f := 8) (sh := fun h => ref24uLine _ h _) (H0 := H) rfl Tryd.call8 rfl (hl := fun w m hr hw => lift_ref24uLine _ w m hr _ hw)) ?_
    rintro _ _ ⟨v_3, h0u5, rfl, rfl, H⟩
    refine AtL.pures hT 1 _ _ _ _ rfl ?_
    refine AtL.nil ?_
    refine AtE.then_n (AtE.go ?_)
    refine AtC.condB H rfl (fun H => ?_) (fun H => ?_)
    ·
     refine AtC.seqR ?_
     refine AtL.pures hT 1 _ _ _ _ rfl ?_
     refine AtL.nil ?_
     refine AtE.then_n (AtE.go ?_)
     refine AtC.ret ?_
     refine AtE.then_r ?_
     exact AtE.retN (rs := [.tmp 2]) rfl (ResAll.cons (ResAt.tmp rfl) ResAll.nil) rfl H
    ·
     refine AtC.skip ?_
     refine AtE.then_n (AtE.go ?_)
     refine AtC.seq ?_
     refine AtC.seqR ?_
     refine AtL.pures hT 2 _ _ _ _ rfl ?_
     refine AtL.nil ?_
     refine AtE.then_n (AtE.go ?_)
     refine AtC.condB H rfl (fun H => ?_) (fun H => ?_)
     ·
      refine AtC.joinSeq (β := Unit) (fun (t0 : Bool) (bb : Unit) => [(2, Value.bool t0)]) (fun (t0 : Bool) (bb : Unit) => []) [] [] H (by exact rfl) (by exact rfl) (fun t0 bb h0u6 H => ?_) (fun J1 H HK1 => ?_)
      ·
       refine AtC.ret ?_
       refine AtE.then_r ?_
       exact AtE.retN (rs := [.tmp 2]) rfl (ResAll.cons (ResAt.tmp rfl) ResAll.nil) rfl H
      ·
       refine AtC.region ?_
       refine AtL.pures hT 3 _ _ _ _ rfl ?_
       refine AtL.splitB (t := 27) H rfl (fun H => ?_) (fun H => ?_)
       ·
        refine AtL.yes rfl rfl rfl ?_
        refine AtL.q rfl (Quiet1.loadSP (i := 0) (l := [_, _, _, _, _]) hT rfl rfl rfl rfl rfl rfl rfl rfl) ?_
        refine AtL.yes rfl rfl rfl ?_
        refine AtL.q rfl (Quiet1.build (cs := [_, _, _, _, _]) hT rfl rfl rfl rfl rfl rfl) ?_
        refine AtL.yes rfl rfl rfl ?_
        refine AtL.e rfl (EffX.call (f := 9) (sh := fun h => ref24uSame _ _ h _) (H0 := H) rfl Tryd.call9 rfl (hl := fun w m hr hw => lift_ref24uSame _ _ w m hr _ hw)) ?_
        rintro _ _ ⟨v_4, h0u7, rfl, rfl, H⟩
        refine AtL.pures hT 2 _ _ _ _ rfl ?_
        refine AtL.nil ?_
        exact AtE.then_n ((HK1 _ () _ H).pickP (ts := [2]) (is := []) rfl rfl (by decide) rfl)
       ·
        refine AtL.noF rfl rfl rfl (by decide) rfl ?_
        refine AtL.noF rfl rfl rfl (by decide) rfl ?_
        refine AtL.noF rfl rfl rfl (by decide) rfl ?_
        refine AtL.pures hT 2 _ _ _ _ rfl ?_
        refine AtL.nil ?_
        exact AtE.then_n ((HK1 _ () _ H).pickP (ts := [2]) (is := []) rfl rfl (by decide) rfl)
     ·
      refine AtC.skip ?_
      refine AtE.then_n (AtE.go ?_)
      refine AtC.joinSeq (β := Unit) (fun (t0u1 : Bool) (bb_1 : Unit) => [(2, Value.bool t0u1)]) (fun (t0u1 : Bool) (bb_1 : Unit) => []) [] [] H (by exact rfl) (by exact rfl) (fun t0u1 bb_1 h0u8 H => ?_) (fun J2 H HK2 => ?_)
      ·
       refine AtC.ret ?_
       exact AtE.retN (rs := [.tmp 2]) rfl (ResAll.cons (ResAt.tmp rfl) ResAll.nil) rfl H
      ·
       rcases iteB.cases H with ⟨hb2, H⟩ | ⟨hb2, H⟩
       ·
        apply AtC.stages [5, 6] [[], [], [], [], [], [], [5], [5, 6], [5, 6]] [[], [0], [0, 1], [0, 1, 2], [0, 1, 2], [0, 1, 2, 4], [0, 1, 2, 3, 4, 5], [0, 1, 2, 3, 4, 5, 6], [0, 1, 2, 3, 4, 5, 6, 7]] hmix (by kernel_rfl) [(32, _), (33, _), (34, _), (35, _), (36, _)] rfl 2 rfl
        refine Stg.known (t := 34) rfl hb2 ?_
        refine Stg.go [0, 1, 2, 3, 4] [5] rfl rfl (QAll.cons (QOp.p hT rfl rfl rfl rfl rfl) (QAll.cons (QOp.p hT rfl rfl rfl rfl rfl) (QAll.cons (QOp.pk hT rfl rfl rfl rfl hb2 rfl) (QAll.cons (QOp.y rfl rfl rfl rfl (Quiet1.loadSP (i := 0) (l := [_, _, _, _, _]) hT rfl rfl rfl rfl rfl rfl rfl rfl) rfl rfl) (QAll.cons (QOp.y rfl rfl rfl rfl (Quiet1.loadSP (i := 1) (l := [_, _, _, _, _]) hT rfl rfl rfl rfl rfl rfl rfl rfl) rfl rfl) QAll.nil))))) ?_
        refine EAll.cons ?_ EAll.nil
        refine EOp.y rfl rfl rfl rfl rfl (EffX.call (f := 10) (sh := fun h => ref24uTold _ h _) (H0 := H) rfl Tryd.call10 rfl (hl := fun w m hr hw => lift_ref24uTold _ w m hr _ hw)) ?_
        rintro _ _ ⟨v_5, h0u9, rfl, rfl, H⟩
        apply Stg.next [(37, _)] rfl rfl
        refine Stg.go [3] [6] rfl rfl (QAll.cons (QOp.y rfl rfl rfl rfl (Quiet1.loadSP (i := 0) (l := [_, _, _, _, _]) hT rfl rfl rfl rfl rfl rfl rfl rfl) rfl rfl) QAll.nil) ?_
        refine EAll.cons ?_ EAll.nil
        refine EOp.y rfl rfl rfl rfl rfl (EffX.call (f := 9) (sh := fun h => ref24uSame _ _ h _) (H0 := H) rfl Tryd.call9 rfl (hl := fun w m hr hw => lift_ref24uSame _ _ w m hr _ hw)) ?_
        rintro _ _ ⟨v_6, h0u10, rfl, rfl, H⟩
        apply Stg.next [(38, _), (39, _), (2, _)] rfl rfl
        refine Stg.fin [7, 8] rfl rfl (QAll.cons (QOp.p hT rfl rfl rfl rfl rfl) (QAll.cons (QOp.p hT rfl rfl rfl rfl rfl) QAll.nil)) ?_
        exact AtE.then_n ((HK2 _ () _ H).pickP (ts := [2]) (is := []) rfl rfl (by decide) rfl)
       ·
        apply AtC.stages [5, 6] [[], [], [], [], [], [], [5], [5, 6], [5, 6]] [[], [0], [0, 1], [0, 1, 2], [0, 1, 2], [0, 1, 2, 4], [0, 1, 2, 3, 4, 5], [0, 1, 2, 3, 4, 5, 6], [0, 1, 2, 3, 4, 5, 6, 7]] hmix (by kernel_rfl) [(32, _), (33, _), (34, _), (35, _), (36, _)] rfl 2 rfl
        refine Stg.known (t := 34) rfl hb2 ?_
        refine Stg.go [0, 1, 2, 3, 4] [5] rfl rfl (QAll.cons (QOp.p hT rfl rfl rfl rfl rfl) (QAll.cons (QOp.p hT rfl rfl rfl rfl rfl) (QAll.cons (QOp.pk hT rfl rfl rfl rfl hb2 rfl) (QAll.cons (QOp.no rfl rfl rfl rfl (by decide) rfl rfl) (QAll.cons (QOp.no rfl rfl rfl rfl (by decide) rfl rfl) QAll.nil))))) ?_
        refine EAll.cons ?_ EAll.nil
        refine EOp.no rfl rfl rfl rfl (by decide) rfl ?_
        apply Stg.next [(37, _)] rfl rfl
        refine Stg.go [3] [6] rfl rfl (QAll.cons (QOp.no rfl rfl rfl rfl (by decide) rfl rfl) QAll.nil) ?_
        refine EAll.cons ?_ EAll.nil
        refine EOp.no rfl rfl rfl rfl (by decide) rfl ?_
        apply Stg.next [(38, _), (39, _), (2, _)] rfl rfl
        refine Stg.fin [7, 8] rfl rfl (QAll.cons (QOp.p hT rfl rfl rfl rfl rfl) (QAll.cons (QOp.p hT rfl rfl rfl rfl rfl) QAll.nil)) ?_
        exact AtE.then_n ((HK2 _ () _ H).pickP (ts := [2]) (is := []) rfl rfl (by decide) rfl)
end Go.Proofs.YtggiiigffkohmaaDoor

/-
  Laws that the proof of this claim's statement leans on, each proved under the conditions that it states.
-/
import Derived.Test.YtkjcocjkcjmafaaProg
import Derived.Test.YtkjcocjkcjmafaaSh
import Derived.Test.YtkjcocjkcjmafaaFwD
import Derived.Test.YtkjcocjkcjmafaaLTShelf
set_option linter.unusedVariables false
set_option linter.unusedSimpArgs false
namespace Go.Proofs.Ytkjcocjkcjmafaa
open Go Go.Lift Go.Sh
set_option maxRecDepth 100000
set_option maxHeartbeats 40000000
attribute [local irreducible] Calls AtL AtC AtE AtD Eff Quiet1 Stg qAt QAll eAt EAll nextK Code.wp
def T : TTab := [(3, .int .i64, 1, 8, [Value.int .i64 0]), (4, .bool, 1, 1, [Value.bool false]), (9, .string, 1, 16, [Value.string (ByteArray.mk #[])]), (22, .slice 23, 1, 24, [Sl.toV Sl.nil]), (23, .slice 3, 1, 24, [Sl.toV Sl.nil]), (26, .slice 32, 1, 24, [Sl.toV Sl.nil]), (28, .struct #[⟨ "Clauses", 26, 0, false, "", "", 0⟩, ⟨ "Watch", 22, 1, false, "", "", 24⟩, ⟨ "Value", 23, 2, false, "", "", 48⟩, ⟨ "Level", 23, 3, false, "", "", 72⟩, ⟨ "Reason", 23, 4, false, "", "", 96⟩, ⟨ "Trail", 23, 5, false, "", "", 120⟩, ⟨ "Heads", 23, 6, false, "", "", 144⟩, ⟨ "Next", 3, 7, false, "", "", 168⟩], 8, 176, [Sl.toV Sl.nil, Sl.toV Sl.nil, Sl.toV Sl.nil, Sl.toV Sl.nil, Sl.toV Sl.nil, Sl.toV Sl.nil, Sl.toV Sl.nil, Value.int .i64 0]), (32, .struct #[⟨ "Lits", 23, 0, false, "", "", 0⟩, ⟨ "Learned", 4, 1, false, "", "", 24⟩, ⟨ "Use", 3, 2, false, "", "", 32⟩], 3, 40, [Sl.toV Sl.nil, Value.bool false, Value.int .i64 0]), (34, .pointer 28, 1, 8, [Value.pointer none]), (45, .struct #[⟨ "Lits", 23, 0, false, "", "", 0⟩, ⟨ "Level", 3, 1, false, "", "", 24⟩, ⟨ "Seen", 23, 2, false, "", "", 32⟩], 3, 56, [Sl.toV Sl.nil, Value.int .i64 0, Sl.toV Sl.nil]), (62, .map 3 4, 1, 8, [Value.map none]), (70, .pointer 73, 1, 8, [Value.pointer none]), (71, .map 3 3, 1, 8, [Value.map none]), (73, .struct #[⟨ "search", 28, 0, false, "", "steelyard/learn", 0⟩, ⟨ "set", 71, 8, false, "", "steelyard/learn", 176⟩, ⟨ "seen", 62, 9, false, "", "steelyard/learn", 184⟩, ⟨ "here", 3, 10, false, "", "steelyard/learn", 192⟩], 11, 200, [Sl.toV Sl.nil, Sl.toV Sl.nil, Sl.toV Sl.nil, Sl.toV Sl.nil, Sl.toV Sl.nil, Sl.toV Sl.nil, Sl.toV Sl.nil, Value.int .i64 0, Value.map none, Value.map none, Value.int .i64 0])]
theorem hT : TTab.Ok Try.prog T := TTab.ok_cons (by kernel_rfl) (by kernel_rfl) (TTab.ok_cons (by kernel_rfl) (by kernel_rfl) (TTab.ok_cons (by kernel_rfl) (by kernel_rfl) (TTab.ok_cons (by kernel_rfl) (by kernel_rfl) (TTab.ok_cons (by kernel_rfl) (by kernel_rfl) (TTab.ok_cons (by kernel_rfl) (by kernel_rfl) (TTab.ok_cons (by kernel_rfl) (by kernel_rfl) (TTab.ok_cons (by kernel_rfl) (by kernel_rfl) (TTab.ok_cons (by kernel_rfl) (by kernel_rfl) (TTab.ok_cons (by kernel_rfl) (by kernel_rfl) (TTab.ok_cons (by kernel_rfl) (by kernel_rfl) (TTab.ok_cons (by kernel_rfl) (by kernel_rfl) (TTab.ok_cons (by kernel_rfl) (by kernel_rfl) (TTab.ok_cons (by kernel_rfl) (by kernel_rfl) (TTab.ok_nil _))))))))))))))
theorem p_ {n : Ns} {B : Base} {ops : Array Oper} {Q : Exit → Act → World → Prop} {h : Hp} (k : Nat) {L L' : Frm} {l l' : List Oper} (hr : runPG T n.n ops k L l = some (L', l')) (H : AtL Try.prog n B ops Q L' h l') : AtL Try.prog n B ops Q L h l := pg hT k hr H
theorem q_ {n : Ns} {h : Hp} {ops : List Oper} {V : Frm} {i : Nat} {r : List Nat} {v : Value} (hb : qpB T n.n ops V i = some (v, v)) (h2 : QAll Try.prog n ops V h r) : QAll Try.prog n ops V h (i :: r) := qp hT hb h2
theorem l_ {n : Ns} {L : Frm} {h : Hp} {o : Oper} (i : Nat) {v : Value} {b : Nat} (hb : lPf T L h o i = some (v, b, b)) : Quiet1 Try.prog n L h o v := lP hT i hb
theorem s_ {n : Ns} {L : Frm} {h : Hp} {o : Oper} (i : Nat) (l : List Value) {b : Nat} (hb : lSf T L h o i = some (l, b, b)) : Quiet1 Try.prog n L h o (.agg l.toArray) := lS2 hT i l hb
theorem hmix : Try.prog.follows .mixedOrders = true := by kernel_rfl
theorem lift_clause_New (bools : Int) : Lf Try.prog 21 [Value.int .i64 bools] (fun r => Value.agg (C_sl_sl_sl_sl_sl_sl_sl_i64 r).toArray) (clause_New bools) := by
 refine Lf.go Try.func21 Try.ntmps21 Y Y [0] Y fun w m S H => ?_
 unfold clause_New at H
 refine sR (al hT [_, _, _, _, _, _, _, _] H Y Y Y fun b _ H => znl (tg (sR (p_ 4 Y ?_))))
 replace H := H.self
 refine ng ?_
 refine AtC.joinSeq (β := Nat) (fun (t0 : Sl × Sl × Sl × Sl × Sl × Sl × Sl × Int) (bb : Nat) => [(4, Value.pointer (some ⟨bb, 0, none⟩))]) (fun (t0 : Sl × Sl × Sl × Sl × Sl × Sl × Sl × Int) (bb : Nat) => [(bb, [Sl.toV t0.1, Sl.toV t0.2.1, Sl.toV t0.2.2.1, Sl.toV t0.2.2.2.1, Sl.toV t0.2.2.2.2.1, Sl.toV t0.2.2.2.2.2.1, Sl.toV t0.2.2.2.2.2.2.1, Value.int .i64 t0.2.2.2.2.2.2.2])]) [2] [0] (H _ rfl) Y Y (fun t0 bb h1 H => ?_) (fun J1 H HK1 => ?_)
 refine zcs (sR (p_ 1 Y (zlq Y (l_ 0 Y) (p_ 2 Y (ng (zck ?_))))))
 refine AtC.loopM (fun (s0 : Int) => [(22, Value.int .i64 s0)]) (fun (s0 : Int) => []) [2, 4, 21] [22, 2, 4, 21] [0, 1] [0, 1] H Y Y Y (by decide) Y (fun Kp67 s0 h523 H Q67 HK67 => ?_)
 refine sR (p_ 1 Y (ng (zcs ?_)))
 refine zcb H Y (fun H => ?_) (fun H => ?_)
 refine zsk (tg (zcs (zck (sR (p_ 2 Y (ng (zrg ?_)))))))
 refine p_ 1 Y (zlq Y (l_ 0 Y) (p_ 1 Y (ix hT H Y Y Y Y Y Y fun _ H => zle Y (EffX.store hT Y Y Y Y Y H) ?_)))
 rintro _ _ ⟨h524, rfl, H⟩
 refine znl (zbn (tg (zrg (p_ 2 Y (znl ?_)))))
 exact pko (HK67 _ _ H) [22, 2, 4, 21] [0, 1] Y
 refine zxt (ztx (ztx (zbh (tg (sR (zlq Y (s_ 0 [_, _, _, _, _, _, _, _] Y) (sp hT 1 [(_, [_, _, _, _, _, _, _, _]), (_, [_, _, _, _, _, _, _, _])] Y Y Y Y Y Y Y Y Y Y Y fun _ => ?_)))))))
 refine ng (zrt ?_)
 exact rc (i := 1) hT [_, _, _, _, _, _, _, _] Y Y Y Y Y Y Y Y Y H
 apply AtC.stages [2, 4, 6, 8, 10, 11] (rl [([], 9), ([2, 4, 6, 8], 1), ([], 1), ([2, 4, 6, 8, 10], 1)]) [[], [0], [0, 1], [], [3], [], [5], [], [7], (ra 9), [], (ra 11)] hmix (by kernel_rfl) [(9, _), (10, _), (12, _), (14, _), (16, _)] Y 6 Y
 refine Stg.go [0, 1, 3, 5, 7] [2, 4, 6, 8, 10] Y Y (q_ Y (q_ Y (q_ Y (q_ Y (q_ Y zqz))))) ?_
 refine EAll.cons ?_ ?_
 replace H := H.self
 replace H := H.1
 refine EOp.e Y Y Y (EffX.mkS hT Y Y Y Y Y Y Y Y (by decide) H) ?_
 rintro _ _ ⟨v, h3, rfl, rfl, H⟩
 apply Stg.next [(11, _)] Y Y
 refine Stg.go [3, 5, 7] [4, 6, 8, 10] Y Y (q_ Y (q_ Y (q_ Y zqz))) ?_
 refine EAll.cons ?_ ?_
 replace H := H.self
 replace H := H.1
 refine EOp.e Y Y Y (EffX.mkS hT Y Y Y Y Y Y Y Y (by decide) H) ?_
 rintro _ _ ⟨v_1, h5, rfl, rfl, H⟩
 apply Stg.next [(13, _)] Y Y
 refine Stg.go [5, 7] [6, 8, 10] Y Y (q_ Y (q_ Y zqz)) ?_
 refine EAll.cons ?_ ?_
 replace H := H.self
 replace H := H.1
 refine EOp.e Y Y Y (EffX.mkS hT Y Y Y Y Y Y Y Y (by decide) H) ?_
 rintro _ _ ⟨v_2, h7, rfl, rfl, H⟩
 apply Stg.next [(15, _)] Y Y
 refine Stg.go [7] [8, 10] Y Y (q_ Y zqz) ?_
 refine EAll.cons ?_ ?_
 refine EOp.e Y Y Y (EffX.mkS hT Y Y Y Y Y Y Y Y (by decide) H.self) ?_
 rintro _ _ ⟨v_3, h9, rfl, rfl, H⟩
 apply Stg.next [(17, _), (18, _)] Y Y
 refine Stg.go [9] [10] Y Y (qq Y (zqb (cs := [_, _, _, _, _, _, _, _]) hT Y Y Y Y Y Y) Y zqz) (eo Y (zea (cs := [_, _, _, _, _, _, _, _]) hT Y Y H) ?_)
 rintro _ _ ⟨b_1, _, rfl, rfl, he1, H⟩
 apply Stg.next [(4, _)] Y Y
 refine Stg.go [9] [11] Y Y (qq Y (zqb (cs := [_, _, _, _, _, _, _, _]) hT Y Y Y Y Y Y) Y zqz) (eo Y (zes (i := 0) (qv := [(_, [_, _, _, _, _, _, _, _]), (_, [_, _, _, _, _, _, _, _])]) hT Y Y Y Y Y Y Y Y Y Y) ?_)
 rintro _ _ rfl
 apply Stg.next [] Y Y
 refine Stg.fin [] Y Y zqz ?_
 exact pko (HK1 _ b_1 _ H.self) [4, 2] [0, 1] Y
 refine eo Y (zea (cs := [_, _, _, _, _, _, _, _]) hT Y Y H) ?_
 rintro _ _ ⟨b_2, _, rfl, rfl, he2, H⟩
 apply Stg.next [(4, _)] Y Y
 refine Stg.go [7] [8] Y Y (q_ Y zqz) (eo Y (EffX.mkS hT Y Y Y Y Y Y Y Y (by decide) H.self) ?_)
 rintro _ _ ⟨v_4, h11, rfl, rfl, H⟩
 apply Stg.next [(17, _), (18, _)] Y Y
 refine Stg.go [9] [11] Y Y (qq Y (zqb (cs := [_, _, _, _, _, _, _, _]) hT Y Y Y Y Y Y) Y zqz) (eo Y (zes (i := 0) (qv := [(_, [_, _, _, _, _, _, _, _]), (_, [_, _, _, _, _, _, _, _])]) hT Y Y Y Y Y Y Y Y Y Y) ?_)
 rintro _ _ rfl
 apply Stg.next [] Y Y
 refine Stg.fin [] Y Y zqz ?_
 exact pko (HK1 _ b_2 _ H.self) [4, 2] [0, 1] Y
 refine EAll.cons ?_ ?_
 replace H := H.self
 replace H := H.2
 refine EOp.e Y Y Y (EffX.mkS hT Y Y Y Y Y Y Y Y (by decide) H) ?_
 rintro _ _ ⟨v_5, h13, rfl, rfl, H⟩
 apply Stg.next [(17, _)] Y Y
 refine Stg.go [5] [6, 10] Y Y (q_ Y zqz) ?_
 refine EAll.cons ?_ ?_
 refine EOp.e Y Y Y (EffX.mkS hT Y Y Y Y Y Y Y Y (by decide) H.self) ?_
 rintro _ _ ⟨v_6, h15, rfl, rfl, H⟩
 apply Stg.next [(15, _), (18, _)] Y Y
 refine Stg.go [9] [10] Y Y (qq Y (zqb (cs := [_, _, _, _, _, _, _, _]) hT Y Y Y Y Y Y) Y zqz) (eo Y (zea (cs := [_, _, _, _, _, _, _, _]) hT Y Y H) ?_)
 rintro _ _ ⟨b_3, _, rfl, rfl, he3, H⟩
 apply Stg.next [(4, _)] Y Y
 refine Stg.go [9] [11] Y Y (qq Y (zqb (cs := [_, _, _, _, _, _, _, _]) hT Y Y Y Y Y Y) Y zqz) (eo Y (zes (i := 0) (qv := [(_, [_, _, _, _, _, _, _, _]), (_, [_, _, _, _, _, _, _, _])]) hT Y Y Y Y Y Y Y Y Y Y) ?_)
 rintro _ _ rfl
 apply Stg.next [] Y Y
 refine Stg.fin [] Y Y zqz ?_
 exact pko (HK1 _ b_3 _ H.self) [4, 2] [0, 1] Y
 refine eo Y (zea (cs := [_, _, _, _, _, _, _, _]) hT Y Y H) ?_
 rintro _ _ ⟨b_4, _, rfl, rfl, he4, H⟩
 apply Stg.next [(4, _)] Y Y
 refine Stg.go [5] [6] Y Y (q_ Y zqz) (eo Y (EffX.mkS hT Y Y Y Y Y Y Y Y (by decide) H.self) ?_)
 rintro _ _ ⟨v_7, h17, rfl, rfl, H⟩
 apply Stg.next [(15, _), (18, _)] Y Y
 refine Stg.go [9] [11] Y Y (qq Y (zqb (cs := [_, _, _, _, _, _, _, _]) hT Y Y Y Y Y Y) Y zqz) (eo Y (zes (i := 0) (qv := [(_, [_, _, _, _, _, _, _, _]), (_, [_, _, _, _, _, _, _, _])]) hT Y Y Y Y Y Y Y Y Y Y) ?_)
 rintro _ _ rfl
 apply Stg.next [] Y Y
 refine Stg.fin [] Y Y zqz ?_
 exact pko (HK1 _ b_4 _ H.self) [4, 2] [0, 1] Y
 refine eo Y (zea (cs := [_, _, _, _, _, _, _, _]) hT Y Y H) ?_
 rintro _ _ ⟨b_5, _, rfl, rfl, he5, H⟩
 apply Stg.next [(4, _)] Y Y
 refine Stg.go [5, 7] [6, 8] Y Y (q_ Y (q_ Y zqz)) ?_
 refine EAll.cons ?_ ?_
 replace H := H.self
 replace H := H.1
 refine EOp.e Y Y Y (EffX.mkS hT Y Y Y Y Y Y Y Y (by decide) H) ?_
 rintro _ _ ⟨v_8, h19, rfl, rfl, H⟩
 apply Stg.next [(15, _)] Y Y
 refine Stg.go [7] [8] Y Y (q_ Y zqz) (eo Y (EffX.mkS hT Y Y Y Y Y Y Y Y (by decide) H.self) ?_)
 rintro _ _ ⟨v_9, h21, rfl, rfl, H⟩
 apply Stg.next [(17, _), (18, _)] Y Y
 refine Stg.go [9] [11] Y Y (qq Y (zqb (cs := [_, _, _, _, _, _, _, _]) hT Y Y Y Y Y Y) Y zqz) (eo Y (zes (i := 0) (qv := [(_, [_, _, _, _, _, _, _, _]), (_, [_, _, _, _, _, _, _, _])]) hT Y Y Y Y Y Y Y Y Y Y) ?_)
 rintro _ _ rfl
 apply Stg.next [] Y Y
 refine Stg.fin [] Y Y zqz ?_
 exact pko (HK1 _ b_5 _ H.self) [4, 2] [0, 1] Y
 refine EAll.cons ?_ EAll.nil
 replace H := H.self
 replace H := H.2
 refine EOp.e Y Y Y (EffX.mkS hT Y Y Y Y Y Y Y Y (by decide) H) ?_
 rintro _ _ ⟨v_10, h23, rfl, rfl, H⟩
 apply Stg.next [(17, _)] Y Y
 refine Stg.go [5] [6] Y Y (q_ Y zqz) (eo Y (EffX.mkS hT Y Y Y Y Y Y Y Y (by decide) H.self) ?_)
 rintro _ _ ⟨v_11, h25, rfl, rfl, H⟩
 apply Stg.next [(15, _), (18, _)] Y Y
 refine Stg.go [9] [11] Y Y (qq Y (zqb (cs := [_, _, _, _, _, _, _, _]) hT Y Y Y Y Y Y) Y zqz) (eo Y (zes (i := 0) (qv := [(_, [_, _, _, _, _, _, _, _]), (_, [_, _, _, _, _, _, _, _])]) hT Y Y Y Y Y Y Y Y Y Y) ?_)
 rintro _ _ rfl
 apply Stg.next [] Y Y
 refine Stg.fin [] Y Y zqz ?_
 exact pko (HK1 _ b_5 _ H.self) [4, 2] [0, 1] Y
 refine EAll.cons ?_ ?_
 replace H := H.self
 replace H := H.2.1
 refine EOp.e Y Y Y (EffX.mkS hT Y Y Y Y Y Y Y Y (by decide) H) ?_
 rintro _ _ ⟨v_12, h27, rfl, rfl, H⟩
 apply Stg.next [(15, _)] Y Y
 refine Stg.go [3, 7] [4, 8, 10] Y Y (q_ Y (q_ Y zqz)) ?_
 refine EAll.cons ?_ ?_
 replace H := H.self
 replace H := H.1
 refine EOp.e Y Y Y (EffX.mkS hT Y Y Y Y Y Y Y Y (by decide) H) ?_
 rintro _ _ ⟨v_13, h29, rfl, rfl, H⟩
 apply Stg.next [(13, _)] Y Y
 refine Stg.go [7] [8, 10] Y Y (q_ Y zqz) ?_
 refine EAll.cons ?_ ?_
 refine EOp.e Y Y Y (EffX.mkS hT Y Y Y Y Y Y Y Y (by decide) H.self) ?_
 rintro _ _ ⟨v_14, h31, rfl, rfl, H⟩
 apply Stg.next [(17, _), (18, _)] Y Y
 refine Stg.go [9] [10] Y Y (qq Y (zqb (cs := [_, _, _, _, _, _, _, _]) hT Y Y Y Y Y Y) Y zqz) (eo Y (zea (cs := [_, _, _, _, _, _, _, _]) hT Y Y H) ?_)
 rintro _ _ ⟨b_6, _, rfl, rfl, he6, H⟩
 apply Stg.next [(4, _)] Y Y
 refine Stg.go [9] [11] Y Y (qq Y (zqb (cs := [_, _, _, _, _, _, _, _]) hT Y Y Y Y Y Y) Y zqz) (eo Y (zes (i := 0) (qv := [(_, [_, _, _, _, _, _, _, _]), (_, [_, _, _, _, _, _, _, _])]) hT Y Y Y Y Y Y Y Y Y Y) ?_)
 rintro _ _ rfl
 apply Stg.next [] Y Y
 refine Stg.fin [] Y Y zqz ?_
 exact pko (HK1 _ b_6 _ H.self) [4, 2] [0, 1] Y
 refine eo Y (zea (cs := [_, _, _, _, _, _, _, _]) hT Y Y H) ?_
 rintro _ _ ⟨b_7, _, rfl, rfl, he7, H⟩
 apply Stg.next [(4, _)] Y Y
 refine Stg.go [7] [8] Y Y (q_ Y zqz) (eo Y (EffX.mkS hT Y Y Y Y Y Y Y Y (by decide) H.self) ?_)
 rintro _ _ ⟨v_15, h33, rfl, rfl, H⟩
 apply Stg.next [(17, _), (18, _)] Y Y
 refine Stg.go [9] [11] Y Y (qq Y (zqb (cs := [_, _, _, _, _, _, _, _]) hT Y Y Y Y Y Y) Y zqz) (eo Y (zes (i := 0) (qv := [(_, [_, _, _, _, _, _, _, _]), (_, [_, _, _, _, _, _, _, _])]) hT Y Y Y Y Y Y Y Y Y Y) ?_)
 rintro _ _ rfl
 apply Stg.next [] Y Y
 refine Stg.fin [] Y Y zqz ?_
 exact pko (HK1 _ b_7 _ H.self) [4, 2] [0, 1] Y
 refine EAll.cons ?_ ?_
 replace H := H.self
 replace H := H.2
 refine EOp.e Y Y Y (EffX.mkS hT Y Y Y Y Y Y Y Y (by decide) H) ?_
 rintro _ _ ⟨v_16, h35, rfl, rfl, H⟩
 apply Stg.next [(17, _)] Y Y
 refine Stg.go [3] [4, 10] Y Y (q_ Y zqz) ?_
 refine EAll.cons ?_ ?_
 refine EOp.e Y Y Y (EffX.mkS hT Y Y Y Y Y Y Y Y (by decide) H.self) ?_
 rintro _ _ ⟨v_17, h37, rfl, rfl, H⟩
 apply Stg.next [(13, _), (18, _)] Y Y
 refine Stg.go [9] [10] Y Y (qq Y (zqb (cs := [_, _, _, _, _, _, _, _]) hT Y Y Y Y Y Y) Y zqz) (eo Y (zea (cs := [_, _, _, _, _, _, _, _]) hT Y Y H) ?_)
 rintro _ _ ⟨b_8, _, rfl, rfl, he8, H⟩
 apply Stg.next [(4, _)] Y Y
 refine Stg.go [9] [11] Y Y (qq Y (zqb (cs := [_, _, _, _, _, _, _, _]) hT Y Y Y Y Y Y) Y zqz) (eo Y (zes (i := 0) (qv := [(_, [_, _, _, _, _, _, _, _]), (_, [_, _, _, _, _, _, _, _])]) hT Y Y Y Y Y Y Y Y Y Y) ?_)
 rintro _ _ rfl
 apply Stg.next [] Y Y
 refine Stg.fin [] Y Y zqz ?_
 exact pko (HK1 _ b_8 _ H.self) [4, 2] [0, 1] Y
 refine eo Y (zea (cs := [_, _, _, _, _, _, _, _]) hT Y Y H) ?_
 rintro _ _ ⟨b_9, _, rfl, rfl, he9, H⟩
 apply Stg.next [(4, _)] Y Y
 refine Stg.go [3] [4] Y Y (q_ Y zqz) (eo Y (EffX.mkS hT Y Y Y Y Y Y Y Y (by decide) H.self) ?_)
 rintro _ _ ⟨v_18, h39, rfl, rfl, H⟩
 apply Stg.next [(13, _), (18, _)] Y Y
 refine Stg.go [9] [11] Y Y (qq Y (zqb (cs := [_, _, _, _, _, _, _, _]) hT Y Y Y Y Y Y) Y zqz) (eo Y (zes (i := 0) (qv := [(_, [_, _, _, _, _, _, _, _]), (_, [_, _, _, _, _, _, _, _])]) hT Y Y Y Y Y Y Y Y Y Y) ?_)
 rintro _ _ rfl
 apply Stg.next [] Y Y
 refine Stg.fin [] Y Y zqz ?_
 exact pko (HK1 _ b_9 _ H.self) [4, 2] [0, 1] Y
 refine eo Y (zea (cs := [_, _, _, _, _, _, _, _]) hT Y Y H) ?_
 rintro _ _ ⟨b_10, _, rfl, rfl, he10, H⟩
 apply Stg.next [(4, _)] Y Y
 refine Stg.go [3, 7] [4, 8] Y Y (q_ Y (q_ Y zqz)) ?_
 refine EAll.cons ?_ ?_
 replace H := H.self
 replace H := H.1
 refine EOp.e Y Y Y (EffX.mkS hT Y Y Y Y Y Y Y Y (by decide) H) ?_
 rintro _ _ ⟨v_19, h41, rfl, rfl, H⟩
 apply Stg.next [(13, _)] Y Y
 refine Stg.go [7] [8] Y Y (q_ Y zqz) (eo Y (EffX.mkS hT Y Y Y Y Y Y Y Y (by decide) H.self) ?_)
 rintro _ _ ⟨v_20, h43, rfl, rfl, H⟩
 apply Stg.next [(17, _), (18, _)] Y Y
 refine Stg.go [9] [11] Y Y (qq Y (zqb (cs := [_, _, _, _, _, _, _, _]) hT Y Y Y Y Y Y) Y zqz) (eo Y (zes (i := 0) (qv := [(_, [_, _, _, _, _, _, _, _]), (_, [_, _, _, _, _, _, _, _])]) hT Y Y Y Y Y Y Y Y Y Y) ?_)
 rintro _ _ rfl
 apply Stg.next [] Y Y
 refine Stg.fin [] Y Y zqz ?_
 exact pko (HK1 _ b_10 _ H.self) [4, 2] [0, 1] Y
 refine EAll.cons ?_ EAll.nil
 replace H := H.self
 replace H := H.2
 refine EOp.e Y Y Y (EffX.mkS hT Y Y Y Y Y Y Y Y (by decide) H) ?_
 rintro _ _ ⟨v_21, h45, rfl, rfl, H⟩
 apply Stg.next [(17, _)] Y Y
 refine Stg.go [3] [4] Y Y (q_ Y zqz) (eo Y (EffX.mkS hT Y Y Y Y Y Y Y Y (by decide) H.self) ?_)
 rintro _ _ ⟨v_22, h47, rfl, rfl, H⟩
 apply Stg.next [(13, _), (18, _)] Y Y
 refine Stg.go [9] [11] Y Y (qq Y (zqb (cs := [_, _, _, _, _, _, _, _]) hT Y Y Y Y Y Y) Y zqz) (eo Y (zes (i := 0) (qv := [(_, [_, _, _, _, _, _, _, _]), (_, [_, _, _, _, _, _, _, _])]) hT Y Y Y Y Y Y Y Y Y Y) ?_)
 rintro _ _ rfl
 apply Stg.next [] Y Y
 refine Stg.fin [] Y Y zqz ?_
 exact pko (HK1 _ b_10 _ H.self) [4, 2] [0, 1] Y
 refine EAll.cons ?_ ?_
 replace H := H.self
 replace H := H.2.2
 refine EOp.e Y Y Y (EffX.mkS hT Y Y Y Y Y Y Y Y (by decide) H) ?_
 rintro _ _ ⟨v_23, h49, rfl, rfl, H⟩
 apply Stg.next [(17, _)] Y Y
 refine Stg.go [3, 5] [4, 6, 10] Y Y (q_ Y (q_ Y zqz)) ?_
 refine EAll.cons ?_ ?_
 replace H := H.self
 replace H := H.1
 refine EOp.e Y Y Y (EffX.mkS hT Y Y Y Y Y Y Y Y (by decide) H) ?_
 rintro _ _ ⟨v_24, h51, rfl, rfl, H⟩
 apply Stg.next [(13, _)] Y Y
 refine Stg.go [5] [6, 10] Y Y (q_ Y zqz) ?_
 refine EAll.cons ?_ ?_
 refine EOp.e Y Y Y (EffX.mkS hT Y Y Y Y Y Y Y Y (by decide) H.self) ?_
 rintro _ _ ⟨v_25, h53, rfl, rfl, H⟩
 apply Stg.next [(15, _), (18, _)] Y Y
 refine Stg.go [9] [10] Y Y (qq Y (zqb (cs := [_, _, _, _, _, _, _, _]) hT Y Y Y Y Y Y) Y zqz) (eo Y (zea (cs := [_, _, _, _, _, _, _, _]) hT Y Y H) ?_)
 rintro _ _ ⟨b_11, _, rfl, rfl, he11, H⟩
 apply Stg.next [(4, _)] Y Y
 refine Stg.go [9] [11] Y Y (qq Y (zqb (cs := [_, _, _, _, _, _, _, _]) hT Y Y Y Y Y Y) Y zqz) (eo Y (zes (i := 0) (qv := [(_, [_, _, _, _, _, _, _, _]), (_, [_, _, _, _, _, _, _, _])]) hT Y Y Y Y Y Y Y Y Y Y) ?_)
 rintro _ _ rfl
 apply Stg.next [] Y Y
 refine Stg.fin [] Y Y zqz ?_
 exact pko (HK1 _ b_11 _ H.self) [4, 2] [0, 1] Y
 refine eo Y (zea (cs := [_, _, _, _, _, _, _, _]) hT Y Y H) ?_
 rintro _ _ ⟨b_12, _, rfl, rfl, he12, H⟩
 apply Stg.next [(4, _)] Y Y
 refine Stg.go [5] [6] Y Y (q_ Y zqz) (eo Y (EffX.mkS hT Y Y Y Y Y Y Y Y (by decide) H.self) ?_)
 rintro _ _ ⟨v_26, h55, rfl, rfl, H⟩
 apply Stg.next [(15, _), (18, _)] Y Y
 refine Stg.go [9] [11] Y Y (qq Y (zqb (cs := [_, _, _, _, _, _, _, _]) hT Y Y Y Y Y Y) Y zqz) (eo Y (zes (i := 0) (qv := [(_, [_, _, _, _, _, _, _, _]), (_, [_, _, _, _, _, _, _, _])]) hT Y Y Y Y Y Y Y Y Y Y) ?_)
 rintro _ _ rfl
 apply Stg.next [] Y Y
 refine Stg.fin [] Y Y zqz ?_
 exact pko (HK1 _ b_12 _ H.self) [4, 2] [0, 1] Y
 refine EAll.cons ?_ ?_
 replace H := H.self
 replace H := H.2
 refine EOp.e Y Y Y (EffX.mkS hT Y Y Y Y Y Y Y Y (by decide) H) ?_
 rintro _ _ ⟨v_27, h57, rfl, rfl, H⟩
 apply Stg.next [(15, _)] Y Y
 refine Stg.go [3] [4, 10] Y Y (q_ Y zqz) ?_
 refine EAll.cons ?_ ?_
 refine EOp.e Y Y Y (EffX.mkS hT Y Y Y Y Y Y Y Y (by decide) H.self) ?_
 rintro _ _ ⟨v_28, h59, rfl, rfl, H⟩
 apply Stg.next [(13, _), (18, _)] Y Y
 refine Stg.go [9] [10] Y Y (qq Y (zqb (cs := [_, _, _, _, _, _, _, _]) hT Y Y Y Y Y Y) Y zqz) (eo Y (zea (cs := [_, _, _, _, _, _, _, _]) hT Y Y H) ?_)
 rintro _ _ ⟨b_13, _, rfl, rfl, he13, H⟩
 apply Stg.next [(4, _)] Y Y
 refine Stg.go [9] [11] Y Y (qq Y (zqb (cs := [_, _, _, _, _, _, _, _]) hT Y Y Y Y Y Y) Y zqz) (eo Y (zes (i := 0) (qv := [(_, [_, _, _, _, _, _, _, _]), (_, [_, _, _, _, _, _, _, _])]) hT Y Y Y Y Y Y Y Y Y Y) ?_)
 rintro _ _ rfl
 apply Stg.next [] Y Y
 refine Stg.fin [] Y Y zqz ?_
 exact pko (HK1 _ b_13 _ H.self) [4, 2] [0, 1] Y
 refine eo Y (zea (cs := [_, _, _, _, _, _, _, _]) hT Y Y H) ?_
 rintro _ _ ⟨b_14, _, rfl, rfl, he14, H⟩
 apply Stg.next [(4, _)] Y Y
 refine Stg.go [3] [4] Y Y (q_ Y zqz) (eo Y (EffX.mkS hT Y Y Y Y Y Y Y Y (by decide) H.self) ?_)
 rintro _ _ ⟨v_29, h61, rfl, rfl, H⟩
 apply Stg.next [(13, _), (18, _)] Y Y
 refine Stg.go [9] [11] Y Y (qq Y (zqb (cs := [_, _, _, _, _, _, _, _]) hT Y Y Y Y Y Y) Y zqz) (eo Y (zes (i := 0) (qv := [(_, [_, _, _, _, _, _, _, _]), (_, [_, _, _, _, _, _, _, _])]) hT Y Y Y Y Y Y Y Y Y Y) ?_)
 rintro _ _ rfl
 apply Stg.next [] Y Y
 refine Stg.fin [] Y Y zqz ?_
 exact pko (HK1 _ b_14 _ H.self) [4, 2] [0, 1] Y
 refine eo Y (zea (cs := [_, _, _, _, _, _, _, _]) hT Y Y H) ?_
 rintro _ _ ⟨b_15, _, rfl, rfl, he15, H⟩
 apply Stg.next [(4, _)] Y Y
 refine Stg.go [3, 5] [4, 6] Y Y (q_ Y (q_ Y zqz)) ?_
 refine EAll.cons ?_ ?_
 replace H := H.self
 replace H := H.1
 refine EOp.e Y Y Y (EffX.mkS hT Y Y Y Y Y Y Y Y (by decide) H) ?_
 rintro _ _ ⟨v_30, h63, rfl, rfl, H⟩
 apply Stg.next [(13, _)] Y Y
 refine Stg.go [5] [6] Y Y (q_ Y zqz) (eo Y (EffX.mkS hT Y Y Y Y Y Y Y Y (by decide) H.self) ?_)
 rintro _ _ ⟨v_31, h65, rfl, rfl, H⟩
 apply Stg.next [(15, _), (18, _)] Y Y
 refine Stg.go [9] [11] Y Y (qq Y (zqb (cs := [_, _, _, _, _, _, _, _]) hT Y Y Y Y Y Y) Y zqz) (eo Y (zes (i := 0) (qv := [(_, [_, _, _, _, _, _, _, _]), (_, [_, _, _, _, _, _, _, _])]) hT Y Y Y Y Y Y Y Y Y Y) ?_)
 rintro _ _ rfl
 apply Stg.next [] Y Y
 refine Stg.fin [] Y Y zqz ?_
 exact pko (HK1 _ b_15 _ H.self) [4, 2] [0, 1] Y
 refine EAll.cons ?_ EAll.nil
 replace H := H.self
 replace H := H.2
 refine EOp.e Y Y Y (EffX.mkS hT Y Y Y Y Y Y Y Y (by decide) H) ?_
 rintro _ _ ⟨v_32, h67, rfl, rfl, H⟩
 apply Stg.next [(15, _)] Y Y
 refine Stg.go [3] [4] Y Y (q_ Y zqz) (eo Y (EffX.mkS hT Y Y Y Y Y Y Y Y (by decide) H.self) ?_)
 rintro _ _ ⟨v_33, h69, rfl, rfl, H⟩
 apply Stg.next [(13, _), (18, _)] Y Y
 refine Stg.go [9] [11] Y Y (qq Y (zqb (cs := [_, _, _, _, _, _, _, _]) hT Y Y Y Y Y Y) Y zqz) (eo Y (zes (i := 0) (qv := [(_, [_, _, _, _, _, _, _, _]), (_, [_, _, _, _, _, _, _, _])]) hT Y Y Y Y Y Y Y Y Y Y) ?_)
 rintro _ _ rfl
 apply Stg.next [] Y Y
 refine Stg.fin [] Y Y zqz ?_
 exact pko (HK1 _ b_15 _ H.self) [4, 2] [0, 1] Y
 refine eo Y (zea (cs := [_, _, _, _, _, _, _, _]) hT Y Y H) ?_
 rintro _ _ ⟨b_16, _, rfl, rfl, he16, H⟩
 apply Stg.next [(4, _)] Y Y
 refine Stg.go [3, 5, 7] [4, 6, 8] Y Y (q_ Y (q_ Y (q_ Y zqz))) ?_
 refine EAll.cons ?_ ?_
 replace H := H.self
 replace H := H.1
 refine EOp.e Y Y Y (EffX.mkS hT Y Y Y Y Y Y Y Y (by decide) H) ?_
 rintro _ _ ⟨v_34, h71, rfl, rfl, H⟩
 apply Stg.next [(13, _)] Y Y
 refine Stg.go [5, 7] [6, 8] Y Y (q_ Y (q_ Y zqz)) ?_
 refine EAll.cons ?_ ?_
 replace H := H.self
 replace H := H.1
 refine EOp.e Y Y Y (EffX.mkS hT Y Y Y Y Y Y Y Y (by decide) H) ?_
 rintro _ _ ⟨v_35, h73, rfl, rfl, H⟩
 apply Stg.next [(15, _)] Y Y
 refine Stg.go [7] [8] Y Y (q_ Y zqz) (eo Y (EffX.mkS hT Y Y Y Y Y Y Y Y (by decide) H.self) ?_)
 rintro _ _ ⟨v_36, h75, rfl, rfl, H⟩
 apply Stg.next [(17, _), (18, _)] Y Y
 refine Stg.go [9] [11] Y Y (qq Y (zqb (cs := [_, _, _, _, _, _, _, _]) hT Y Y Y Y Y Y) Y zqz) (eo Y (zes (i := 0) (qv := [(_, [_, _, _, _, _, _, _, _]), (_, [_, _, _, _, _, _, _, _])]) hT Y Y Y Y Y Y Y Y Y Y) ?_)
 rintro _ _ rfl
 apply Stg.next [] Y Y
 refine Stg.fin [] Y Y zqz ?_
 exact pko (HK1 _ b_16 _ H.self) [4, 2] [0, 1] Y
 refine EAll.cons ?_ EAll.nil
 replace H := H.self
 replace H := H.2
 refine EOp.e Y Y Y (EffX.mkS hT Y Y Y Y Y Y Y Y (by decide) H) ?_
 rintro _ _ ⟨v_37, h77, rfl, rfl, H⟩
 apply Stg.next [(17, _)] Y Y
 refine Stg.go [5] [6] Y Y (q_ Y zqz) (eo Y (EffX.mkS hT Y Y Y Y Y Y Y Y (by decide) H.self) ?_)
 rintro _ _ ⟨v_38, h79, rfl, rfl, H⟩
 apply Stg.next [(15, _), (18, _)] Y Y
 refine Stg.go [9] [11] Y Y (qq Y (zqb (cs := [_, _, _, _, _, _, _, _]) hT Y Y Y Y Y Y) Y zqz) (eo Y (zes (i := 0) (qv := [(_, [_, _, _, _, _, _, _, _]), (_, [_, _, _, _, _, _, _, _])]) hT Y Y Y Y Y Y Y Y Y Y) ?_)
 rintro _ _ rfl
 apply Stg.next [] Y Y
 refine Stg.fin [] Y Y zqz ?_
 exact pko (HK1 _ b_16 _ H.self) [4, 2] [0, 1] Y
 refine EAll.cons ?_ ?_
 replace H := H.self
 replace H := H.2.1
 refine EOp.e Y Y Y (EffX.mkS hT Y Y Y Y Y Y Y Y (by decide) H) ?_
 rintro _ _ ⟨v_39, h81, rfl, rfl, H⟩
 apply Stg.next [(15, _)] Y Y
 refine Stg.go [3, 7] [4, 8] Y Y (q_ Y (q_ Y zqz)) ?_
 refine EAll.cons ?_ ?_
 replace H := H.self
 replace H := H.1
 refine EOp.e Y Y Y (EffX.mkS hT Y Y Y Y Y Y Y Y (by decide) H) ?_
 rintro _ _ ⟨v_40, h83, rfl, rfl, H⟩
 apply Stg.next [(13, _)] Y Y
 refine Stg.go [7] [8] Y Y (q_ Y zqz) (eo Y (EffX.mkS hT Y Y Y Y Y Y Y Y (by decide) H.self) ?_)
 rintro _ _ ⟨v_41, h85, rfl, rfl, H⟩
 apply Stg.next [(17, _), (18, _)] Y Y
 refine Stg.go [9] [11] Y Y (qq Y (zqb (cs := [_, _, _, _, _, _, _, _]) hT Y Y Y Y Y Y) Y zqz) (eo Y (zes (i := 0) (qv := [(_, [_, _, _, _, _, _, _, _]), (_, [_, _, _, _, _, _, _, _])]) hT Y Y Y Y Y Y Y Y Y Y) ?_)
 rintro _ _ rfl
 apply Stg.next [] Y Y
 refine Stg.fin [] Y Y zqz ?_
 exact pko (HK1 _ b_16 _ H.self) [4, 2] [0, 1] Y
 refine EAll.cons ?_ EAll.nil
 replace H := H.self
 replace H := H.2
 refine EOp.e Y Y Y (EffX.mkS hT Y Y Y Y Y Y Y Y (by decide) H) ?_
 rintro _ _ ⟨v_42, h87, rfl, rfl, H⟩
 apply Stg.next [(17, _)] Y Y
 refine Stg.go [3] [4] Y Y (q_ Y zqz) (eo Y (EffX.mkS hT Y Y Y Y Y Y Y Y (by decide) H.self) ?_)
 rintro _ _ ⟨v_43, h89, rfl, rfl, H⟩
 apply Stg.next [(13, _), (18, _)] Y Y
 refine Stg.go [9] [11] Y Y (qq Y (zqb (cs := [_, _, _, _, _, _, _, _]) hT Y Y Y Y Y Y) Y zqz) (eo Y (zes (i := 0) (qv := [(_, [_, _, _, _, _, _, _, _]), (_, [_, _, _, _, _, _, _, _])]) hT Y Y Y Y Y Y Y Y Y Y) ?_)
 rintro _ _ rfl
 apply Stg.next [] Y Y
 refine Stg.fin [] Y Y zqz ?_
 exact pko (HK1 _ b_16 _ H.self) [4, 2] [0, 1] Y
 refine EAll.cons ?_ EAll.nil
 replace H := H.self
 replace H := H.2.2
 refine EOp.e Y Y Y (EffX.mkS hT Y Y Y Y Y Y Y Y (by decide) H) ?_
 rintro _ _ ⟨v_44, h91, rfl, rfl, H⟩
 apply Stg.next [(17, _)] Y Y
 refine Stg.go [3, 5] [4, 6] Y Y (q_ Y (q_ Y zqz)) ?_
 refine EAll.cons ?_ ?_
 replace H := H.self
 replace H := H.1
 refine EOp.e Y Y Y (EffX.mkS hT Y Y Y Y Y Y Y Y (by decide) H) ?_
 rintro _ _ ⟨v_45, h93, rfl, rfl, H⟩
 apply Stg.next [(13, _)] Y Y
 refine Stg.go [5] [6] Y Y (q_ Y zqz) (eo Y (EffX.mkS hT Y Y Y Y Y Y Y Y (by decide) H.self) ?_)
 rintro _ _ ⟨v_46, h95, rfl, rfl, H⟩
 apply Stg.next [(15, _), (18, _)] Y Y
 refine Stg.go [9] [11] Y Y (qq Y (zqb (cs := [_, _, _, _, _, _, _, _]) hT Y Y Y Y Y Y) Y zqz) (eo Y (zes (i := 0) (qv := [(_, [_, _, _, _, _, _, _, _]), (_, [_, _, _, _, _, _, _, _])]) hT Y Y Y Y Y Y Y Y Y Y) ?_)
 rintro _ _ rfl
 apply Stg.next [] Y Y
 refine Stg.fin [] Y Y zqz ?_
 exact pko (HK1 _ b_16 _ H.self) [4, 2] [0, 1] Y
 refine EAll.cons ?_ EAll.nil
 replace H := H.self
 replace H := H.2
 refine EOp.e Y Y Y (EffX.mkS hT Y Y Y Y Y Y Y Y (by decide) H) ?_
 rintro _ _ ⟨v_47, h97, rfl, rfl, H⟩
 apply Stg.next [(15, _)] Y Y
 refine Stg.go [3] [4] Y Y (q_ Y zqz) (eo Y (EffX.mkS hT Y Y Y Y Y Y Y Y (by decide) H.self) ?_)
 rintro _ _ ⟨v_48, h99, rfl, rfl, H⟩
 apply Stg.next [(13, _), (18, _)] Y Y
 refine Stg.go [9] [11] Y Y (qq Y (zqb (cs := [_, _, _, _, _, _, _, _]) hT Y Y Y Y Y Y) Y zqz) (eo Y (zes (i := 0) (qv := [(_, [_, _, _, _, _, _, _, _]), (_, [_, _, _, _, _, _, _, _])]) hT Y Y Y Y Y Y Y Y Y Y) ?_)
 rintro _ _ rfl
 apply Stg.next [] Y Y
 refine Stg.fin [] Y Y zqz ?_
 exact pko (HK1 _ b_16 _ H.self) [4, 2] [0, 1] Y
 refine EAll.cons ?_ ?_
 replace H := H.self
 replace H := H.2.1
 refine EOp.e Y Y Y (EffX.mkS hT Y Y Y Y Y Y Y Y (by decide) H) ?_
 rintro _ _ ⟨v_49, h101, rfl, rfl, H⟩
 apply Stg.next [(13, _)] Y Y
 refine Stg.go [0, 1, 5, 7] [2, 6, 8, 10] Y Y (q_ Y (q_ Y (q_ Y (q_ Y zqz)))) ?_
 refine EAll.cons ?_ ?_
 replace H := H.self
 replace H := H.1
 refine EOp.e Y Y Y (EffX.mkS hT Y Y Y Y Y Y Y Y (by decide) H) ?_
 rintro _ _ ⟨v_50, h103, rfl, rfl, H⟩
 apply Stg.next [(11, _)] Y Y
 refine Stg.go [5, 7] [6, 8, 10] Y Y (q_ Y (q_ Y zqz)) ?_
 refine EAll.cons ?_ ?_
 replace H := H.self
 replace H := H.1
 refine EOp.e Y Y Y (EffX.mkS hT Y Y Y Y Y Y Y Y (by decide) H) ?_
 rintro _ _ ⟨v_51, h105, rfl, rfl, H⟩
 apply Stg.next [(15, _)] Y Y
 refine Stg.go [7] [8, 10] Y Y (q_ Y zqz) ?_
 refine EAll.cons ?_ ?_
 refine EOp.e Y Y Y (EffX.mkS hT Y Y Y Y Y Y Y Y (by decide) H.self) ?_
 rintro _ _ ⟨v_52, h107, rfl, rfl, H⟩
 apply Stg.next [(17, _), (18, _)] Y Y
 refine Stg.go [9] [10] Y Y (qq Y (zqb (cs := [_, _, _, _, _, _, _, _]) hT Y Y Y Y Y Y) Y zqz) (eo Y (zea (cs := [_, _, _, _, _, _, _, _]) hT Y Y H) ?_)
 rintro _ _ ⟨b_17, _, rfl, rfl, he17, H⟩
 apply Stg.next [(4, _)] Y Y
 refine Stg.go [9] [11] Y Y (qq Y (zqb (cs := [_, _, _, _, _, _, _, _]) hT Y Y Y Y Y Y) Y zqz) (eo Y (zes (i := 0) (qv := [(_, [_, _, _, _, _, _, _, _]), (_, [_, _, _, _, _, _, _, _])]) hT Y Y Y Y Y Y Y Y Y Y) ?_)
 rintro _ _ rfl
 apply Stg.next [] Y Y
 refine Stg.fin [] Y Y zqz ?_
 exact pko (HK1 _ b_17 _ H.self) [4, 2] [0, 1] Y
 refine eo Y (zea (cs := [_, _, _, _, _, _, _, _]) hT Y Y H) ?_
 rintro _ _ ⟨b_18, _, rfl, rfl, he18, H⟩
 apply Stg.next [(4, _)] Y Y
 refine Stg.go [7] [8] Y Y (q_ Y zqz) (eo Y (EffX.mkS hT Y Y Y Y Y Y Y Y (by decide) H.self) ?_)
 rintro _ _ ⟨v_53, h109, rfl, rfl, H⟩
 apply Stg.next [(17, _), (18, _)] Y Y
 refine Stg.go [9] [11] Y Y (qq Y (zqb (cs := [_, _, _, _, _, _, _, _]) hT Y Y Y Y Y Y) Y zqz) (eo Y (zes (i := 0) (qv := [(_, [_, _, _, _, _, _, _, _]), (_, [_, _, _, _, _, _, _, _])]) hT Y Y Y Y Y Y Y Y Y Y) ?_)
 rintro _ _ rfl
 apply Stg.next [] Y Y
 refine Stg.fin [] Y Y zqz ?_
 exact pko (HK1 _ b_18 _ H.self) [4, 2] [0, 1] Y
 refine EAll.cons ?_ ?_
 replace H := H.self
 replace H := H.2
 refine EOp.e Y Y Y (EffX.mkS hT Y Y Y Y Y Y Y Y (by decide) H) ?_
 rintro _ _ ⟨v_54, h111, rfl, rfl, H⟩
 apply Stg.next [(17, _)] Y Y
 refine Stg.go [5] [6, 10] Y Y (q_ Y zqz) ?_
 refine EAll.cons ?_ ?_
 refine EOp.e Y Y Y (EffX.mkS hT Y Y Y Y Y Y Y Y (by decide) H.self) ?_
 rintro _ _ ⟨v_55, h113, rfl, rfl, H⟩
 apply Stg.next [(15, _), (18, _)] Y Y
 refine Stg.go [9] [10] Y Y (qq Y (zqb (cs := [_, _, _, _, _, _, _, _]) hT Y Y Y Y Y Y) Y zqz) (eo Y (zea (cs := [_, _, _, _, _, _, _, _]) hT Y Y H) ?_)
 rintro _ _ ⟨b_19, _, rfl, rfl, he19, H⟩
 apply Stg.next [(4, _)] Y Y
 refine Stg.go [9] [11] Y Y (qq Y (zqb (cs := [_, _, _, _, _, _, _, _]) hT Y Y Y Y Y Y) Y zqz) (eo Y (zes (i := 0) (qv := [(_, [_, _, _, _, _, _, _, _]), (_, [_, _, _, _, _, _, _, _])]) hT Y Y Y Y Y Y Y Y Y Y) ?_)
 rintro _ _ rfl
 apply Stg.next [] Y Y
 refine Stg.fin [] Y Y zqz ?_
 exact pko (HK1 _ b_19 _ H.self) [4, 2] [0, 1] Y
 refine eo Y (zea (cs := [_, _, _, _, _, _, _, _]) hT Y Y H) ?_
 rintro _ _ ⟨b_20, _, rfl, rfl, he20, H⟩
 apply Stg.next [(4, _)] Y Y
 refine Stg.go [5] [6] Y Y (q_ Y zqz) (eo Y (EffX.mkS hT Y Y Y Y Y Y Y Y (by decide) H.self) ?_)
 rintro _ _ ⟨v_56, h115, rfl, rfl, H⟩
 apply Stg.next [(15, _), (18, _)] Y Y
 refine Stg.go [9] [11] Y Y (qq Y (zqb (cs := [_, _, _, _, _, _, _, _]) hT Y Y Y Y Y Y) Y zqz) (eo Y (zes (i := 0) (qv := [(_, [_, _, _, _, _, _, _, _]), (_, [_, _, _, _, _, _, _, _])]) hT Y Y Y Y Y Y Y Y Y Y) ?_)
 rintro _ _ rfl
 apply Stg.next [] Y Y
 refine Stg.fin [] Y Y zqz ?_
 exact pko (HK1 _ b_20 _ H.self) [4, 2] [0, 1] Y
 refine eo Y (zea (cs := [_, _, _, _, _, _, _, _]) hT Y Y H) ?_
 rintro _ _ ⟨b_21, _, rfl, rfl, he21, H⟩
 apply Stg.next [(4, _)] Y Y
 refine Stg.go [5, 7] [6, 8] Y Y (q_ Y (q_ Y zqz)) ?_
 refine EAll.cons ?_ ?_
 replace H := H.self
 replace H := H.1
 refine EOp.e Y Y Y (EffX.mkS hT Y Y Y Y Y Y Y Y (by decide) H) ?_
 rintro _ _ ⟨v_57, h117, rfl, rfl, H⟩
 apply Stg.next [(15, _)] Y Y
 refine Stg.go [7] [8] Y Y (q_ Y zqz) (eo Y (EffX.mkS hT Y Y Y Y Y Y Y Y (by decide) H.self) ?_)
 rintro _ _ ⟨v_58, h119, rfl, rfl, H⟩
 apply Stg.next [(17, _), (18, _)] Y Y
 refine Stg.go [9] [11] Y Y (qq Y (zqb (cs := [_, _, _, _, _, _, _, _]) hT Y Y Y Y Y Y) Y zqz) (eo Y (zes (i := 0) (qv := [(_, [_, _, _, _, _, _, _, _]), (_, [_, _, _, _, _, _, _, _])]) hT Y Y Y Y Y Y Y Y Y Y) ?_)
 rintro _ _ rfl
 apply Stg.next [] Y Y
 refine Stg.fin [] Y Y zqz ?_
 exact pko (HK1 _ b_21 _ H.self) [4, 2] [0, 1] Y
 refine EAll.cons ?_ EAll.nil
 replace H := H.self
 replace H := H.2
 refine EOp.e Y Y Y (EffX.mkS hT Y Y Y Y Y Y Y Y (by decide) H) ?_
 rintro _ _ ⟨v_59, h121, rfl, rfl, H⟩
 apply Stg.next [(17, _)] Y Y
 refine Stg.go [5] [6] Y Y (q_ Y zqz) (eo Y (EffX.mkS hT Y Y Y Y Y Y Y Y (by decide) H.self) ?_)
 rintro _ _ ⟨v_60, h123, rfl, rfl, H⟩
 apply Stg.next [(15, _), (18, _)] Y Y
 refine Stg.go [9] [11] Y Y (qq Y (zqb (cs := [_, _, _, _, _, _, _, _]) hT Y Y Y Y Y Y) Y zqz) (eo Y (zes (i := 0) (qv := [(_, [_, _, _, _, _, _, _, _]), (_, [_, _, _, _, _, _, _, _])]) hT Y Y Y Y Y Y Y Y Y Y) ?_)
 rintro _ _ rfl
 apply Stg.next [] Y Y
 refine Stg.fin [] Y Y zqz ?_
 exact pko (HK1 _ b_21 _ H.self) [4, 2] [0, 1] Y
 refine EAll.cons ?_ ?_
 replace H := H.self
 replace H := H.2.1
 refine EOp.e Y Y Y (EffX.mkS hT Y Y Y Y Y Y Y Y (by decide) H) ?_
 rintro _ _ ⟨v_61, h125, rfl, rfl, H⟩
 apply Stg.next [(15, _)] Y Y
 refine Stg.go [0, 1, 7] [2, 8, 10] Y Y (q_ Y (q_ Y (q_ Y zqz))) ?_
 refine EAll.cons ?_ ?_
 replace H := H.self
 replace H := H.1
 refine EOp.e Y Y Y (EffX.mkS hT Y Y Y Y Y Y Y Y (by decide) H) ?_
 rintro _ _ ⟨v_62, h127, rfl, rfl, H⟩
 apply Stg.next [(11, _)] Y Y
 refine Stg.go [7] [8, 10] Y Y (q_ Y zqz) ?_
 refine EAll.cons ?_ ?_
 refine EOp.e Y Y Y (EffX.mkS hT Y Y Y Y Y Y Y Y (by decide) H.self) ?_
 rintro _ _ ⟨v_63, h129, rfl, rfl, H⟩
 apply Stg.next [(17, _), (18, _)] Y Y
 refine Stg.go [9] [10] Y Y (qq Y (zqb (cs := [_, _, _, _, _, _, _, _]) hT Y Y Y Y Y Y) Y zqz) (eo Y (zea (cs := [_, _, _, _, _, _, _, _]) hT Y Y H) ?_)
 rintro _ _ ⟨b_22, _, rfl, rfl, he22, H⟩
 apply Stg.next [(4, _)] Y Y
 refine Stg.go [9] [11] Y Y (qq Y (zqb (cs := [_, _, _, _, _, _, _, _]) hT Y Y Y Y Y Y) Y zqz) (eo Y (zes (i := 0) (qv := [(_, [_, _, _, _, _, _, _, _]), (_, [_, _, _, _, _, _, _, _])]) hT Y Y Y Y Y Y Y Y Y Y) ?_)
 rintro _ _ rfl
 apply Stg.next [] Y Y
 refine Stg.fin [] Y Y zqz ?_
 exact pko (HK1 _ b_22 _ H.self) [4, 2] [0, 1] Y
 refine eo Y (zea (cs := [_, _, _, _, _, _, _, _]) hT Y Y H) ?_
 rintro _ _ ⟨b_23, _, rfl, rfl, he23, H⟩
 apply Stg.next [(4, _)] Y Y
 refine Stg.go [7] [8] Y Y (q_ Y zqz) (eo Y (EffX.mkS hT Y Y Y Y Y Y Y Y (by decide) H.self) ?_)
 rintro _ _ ⟨v_64, h131, rfl, rfl, H⟩
 apply Stg.next [(17, _), (18, _)] Y Y
 refine Stg.go [9] [11] Y Y (qq Y (zqb (cs := [_, _, _, _, _, _, _, _]) hT Y Y Y Y Y Y) Y zqz) (eo Y (zes (i := 0) (qv := [(_, [_, _, _, _, _, _, _, _]), (_, [_, _, _, _, _, _, _, _])]) hT Y Y Y Y Y Y Y Y Y Y) ?_)
 rintro _ _ rfl
 apply Stg.next [] Y Y
 refine Stg.fin [] Y Y zqz ?_
 exact pko (HK1 _ b_23 _ H.self) [4, 2] [0, 1] Y
 refine EAll.cons ?_ ?_
 replace H := H.self
 replace H := H.2
 refine EOp.e Y Y Y (EffX.mkS hT Y Y Y Y Y Y Y Y (by decide) H) ?_
 rintro _ _ ⟨v_65, h133, rfl, rfl, H⟩
 apply Stg.next [(17, _)] Y Y
 refine Stg.go [0, 1] [2, 10] Y Y (q_ Y (q_ Y zqz)) ?_
 refine EAll.cons ?_ ?_
 refine EOp.e Y Y Y (EffX.mkS hT Y Y Y Y Y Y Y Y (by decide) H.self) ?_
 rintro _ _ ⟨v_66, h135, rfl, rfl, H⟩
 apply Stg.next [(11, _), (18, _)] Y Y
 refine Stg.go [9] [10] Y Y (qq Y (zqb (cs := [_, _, _, _, _, _, _, _]) hT Y Y Y Y Y Y) Y zqz) (eo Y (zea (cs := [_, _, _, _, _, _, _, _]) hT Y Y H) ?_)
 rintro _ _ ⟨b_24, _, rfl, rfl, he24, H⟩
 apply Stg.next [(4, _)] Y Y
 refine Stg.go [9] [11] Y Y (qq Y (zqb (cs := [_, _, _, _, _, _, _, _]) hT Y Y Y Y Y Y) Y zqz) (eo Y (zes (i := 0) (qv := [(_, [_, _, _, _, _, _, _, _]), (_, [_, _, _, _, _, _, _, _])]) hT Y Y Y Y Y Y Y Y Y Y) ?_)
 rintro _ _ rfl
 apply Stg.next [] Y Y
 refine Stg.fin [] Y Y zqz ?_
 exact pko (HK1 _ b_24 _ H.self) [4, 2] [0, 1] Y
 refine eo Y (zea (cs := [_, _, _, _, _, _, _, _]) hT Y Y H) ?_
 rintro _ _ ⟨b_25, _, rfl, rfl, he25, H⟩
 apply Stg.next [(4, _)] Y Y
 refine Stg.go [0, 1] [2] Y Y (q_ Y (q_ Y zqz)) (eo Y (EffX.mkS hT Y Y Y Y Y Y Y Y (by decide) H.self) ?_)
 rintro _ _ ⟨v_67, h137, rfl, rfl, H⟩
 apply Stg.next [(11, _), (18, _)] Y Y
 refine Stg.go [9] [11] Y Y (qq Y (zqb (cs := [_, _, _, _, _, _, _, _]) hT Y Y Y Y Y Y) Y zqz) (eo Y (zes (i := 0) (qv := [(_, [_, _, _, _, _, _, _, _]), (_, [_, _, _, _, _, _, _, _])]) hT Y Y Y Y Y Y Y Y Y Y) ?_)
 rintro _ _ rfl
 apply Stg.next [] Y Y
 refine Stg.fin [] Y Y zqz ?_
 exact pko (HK1 _ b_25 _ H.self) [4, 2] [0, 1] Y
 refine eo Y (zea (cs := [_, _, _, _, _, _, _, _]) hT Y Y H) ?_
 rintro _ _ ⟨b_26, _, rfl, rfl, he26, H⟩
 apply Stg.next [(4, _)] Y Y
 refine Stg.go [0, 1, 7] [2, 8] Y Y (q_ Y (q_ Y (q_ Y zqz))) ?_
 refine EAll.cons ?_ ?_
 replace H := H.self
 replace H := H.1
 refine EOp.e Y Y Y (EffX.mkS hT Y Y Y Y Y Y Y Y (by decide) H) ?_
 rintro _ _ ⟨v_68, h139, rfl, rfl, H⟩
 apply Stg.next [(11, _)] Y Y
 refine Stg.go [7] [8] Y Y (q_ Y zqz) (eo Y (EffX.mkS hT Y Y Y Y Y Y Y Y (by decide) H.self) ?_)
 rintro _ _ ⟨v_69, h141, rfl, rfl, H⟩
 apply Stg.next [(17, _), (18, _)] Y Y
 refine Stg.go [9] [11] Y Y (qq Y (zqb (cs := [_, _, _, _, _, _, _, _]) hT Y Y Y Y Y Y) Y zqz) (eo Y (zes (i := 0) (qv := [(_, [_, _, _, _, _, _, _, _]), (_, [_, _, _, _, _, _, _, _])]) hT Y Y Y Y Y Y Y Y Y Y) ?_)
 rintro _ _ rfl
 apply Stg.next [] Y Y
 refine Stg.fin [] Y Y zqz ?_
 exact pko (HK1 _ b_26 _ H.self) [4, 2] [0, 1] Y
 refine EAll.cons ?_ EAll.nil
 replace H := H.self
 replace H := H.2
 refine EOp.e Y Y Y (EffX.mkS hT Y Y Y Y Y Y Y Y (by decide) H) ?_
 rintro _ _ ⟨v_70, h143, rfl, rfl, H⟩
 apply Stg.next [(17, _)] Y Y
 refine Stg.go [0, 1] [2] Y Y (q_ Y (q_ Y zqz)) (eo Y (EffX.mkS hT Y Y Y Y Y Y Y Y (by decide) H.self) ?_)
 rintro _ _ ⟨v_71, h145, rfl, rfl, H⟩
 apply Stg.next [(11, _), (18, _)] Y Y
 refine Stg.go [9] [11] Y Y (qq Y (zqb (cs := [_, _, _, _, _, _, _, _]) hT Y Y Y Y Y Y) Y zqz) (eo Y (zes (i := 0) (qv := [(_, [_, _, _, _, _, _, _, _]), (_, [_, _, _, _, _, _, _, _])]) hT Y Y Y Y Y Y Y Y Y Y) ?_)
 rintro _ _ rfl
 apply Stg.next [] Y Y
 refine Stg.fin [] Y Y zqz ?_
 exact pko (HK1 _ b_26 _ H.self) [4, 2] [0, 1] Y
 refine EAll.cons ?_ ?_
 replace H := H.self
 replace H := H.2.2
 refine EOp.e Y Y Y (EffX.mkS hT Y Y Y Y Y Y Y Y (by decide) H) ?_
 rintro _ _ ⟨v_72, h147, rfl, rfl, H⟩
 apply Stg.next [(17, _)] Y Y
 refine Stg.go [0, 1, 5] [2, 6, 10] Y Y (q_ Y (q_ Y (q_ Y zqz))) ?_
 refine EAll.cons ?_ ?_
 replace H := H.self
 replace H := H.1
 refine EOp.e Y Y Y (EffX.mkS hT Y Y Y Y Y Y Y Y (by decide) H) ?_
 rintro _ _ ⟨v_73, h149, rfl, rfl, H⟩
 apply Stg.next [(11, _)] Y Y
 refine Stg.go [5] [6, 10] Y Y (q_ Y zqz) ?_
 refine EAll.cons ?_ ?_
 refine EOp.e Y Y Y (EffX.mkS hT Y Y Y Y Y Y Y Y (by decide) H.self) ?_
 rintro _ _ ⟨v_74, h151, rfl, rfl, H⟩
 apply Stg.next [(15, _), (18, _)] Y Y
 refine Stg.go [9] [10] Y Y (qq Y (zqb (cs := [_, _, _, _, _, _, _, _]) hT Y Y Y Y Y Y) Y zqz) (eo Y (zea (cs := [_, _, _, _, _, _, _, _]) hT Y Y H) ?_)
 rintro _ _ ⟨b_27, _, rfl, rfl, he27, H⟩
 apply Stg.next [(4, _)] Y Y
 refine Stg.go [9] [11] Y Y (qq Y (zqb (cs := [_, _, _, _, _, _, _, _]) hT Y Y Y Y Y Y) Y zqz) (eo Y (zes (i := 0) (qv := [(_, [_, _, _, _, _, _, _, _]), (_, [_, _, _, _, _, _, _, _])]) hT Y Y Y Y Y Y Y Y Y Y) ?_)
 rintro _ _ rfl
 apply Stg.next [] Y Y
 refine Stg.fin [] Y Y zqz ?_
 exact pko (HK1 _ b_27 _ H.self) [4, 2] [0, 1] Y
 refine eo Y (zea (cs := [_, _, _, _, _, _, _, _]) hT Y Y H) ?_
 rintro _ _ ⟨b_28, _, rfl, rfl, he28, H⟩
 apply Stg.next [(4, _)] Y Y
 refine Stg.go [5] [6] Y Y (q_ Y zqz) (eo Y (EffX.mkS hT Y Y Y Y Y Y Y Y (by decide) H.self) ?_)
 rintro _ _ ⟨v_75, h153, rfl, rfl, H⟩
 apply Stg.next [(15, _), (18, _)] Y Y
 refine Stg.go [9] [11] Y Y (qq Y (zqb (cs := [_, _, _, _, _, _, _, _]) hT Y Y Y Y Y Y) Y zqz) (eo Y (zes (i := 0) (qv := [(_, [_, _, _, _, _, _, _, _]), (_, [_, _, _, _, _, _, _, _])]) hT Y Y Y Y Y Y Y Y Y Y) ?_)
 rintro _ _ rfl
 apply Stg.next [] Y Y
 refine Stg.fin [] Y Y zqz ?_
 exact pko (HK1 _ b_28 _ H.self) [4, 2] [0, 1] Y
 refine EAll.cons ?_ ?_
 replace H := H.self
 replace H := H.2
 refine EOp.e Y Y Y (EffX.mkS hT Y Y Y Y Y Y Y Y (by decide) H) ?_
 rintro _ _ ⟨v_76, h155, rfl, rfl, H⟩
 apply Stg.next [(15, _)] Y Y
 refine Stg.go [0, 1] [2, 10] Y Y (q_ Y (q_ Y zqz)) ?_
 refine EAll.cons ?_ ?_
 refine EOp.e Y Y Y (EffX.mkS hT Y Y Y Y Y Y Y Y (by decide) H.self) ?_
 rintro _ _ ⟨v_77, h157, rfl, rfl, H⟩
 apply Stg.next [(11, _), (18, _)] Y Y
 refine Stg.go [9] [10] Y Y (qq Y (zqb (cs := [_, _, _, _, _, _, _, _]) hT Y Y Y Y Y Y) Y zqz) (eo Y (zea (cs := [_, _, _, _, _, _, _, _]) hT Y Y H) ?_)
 rintro _ _ ⟨b_29, _, rfl, rfl, he29, H⟩
 apply Stg.next [(4, _)] Y Y
 refine Stg.go [9] [11] Y Y (qq Y (zqb (cs := [_, _, _, _, _, _, _, _]) hT Y Y Y Y Y Y) Y zqz) (eo Y (zes (i := 0) (qv := [(_, [_, _, _, _, _, _, _, _]), (_, [_, _, _, _, _, _, _, _])]) hT Y Y Y Y Y Y Y Y Y Y) ?_)
 rintro _ _ rfl
 apply Stg.next [] Y Y
 refine Stg.fin [] Y Y zqz ?_
 exact pko (HK1 _ b_29 _ H.self) [4, 2] [0, 1] Y
 refine eo Y (zea (cs := [_, _, _, _, _, _, _, _]) hT Y Y H) ?_
 rintro _ _ ⟨b_30, _, rfl, rfl, he30, H⟩
 apply Stg.next [(4, _)] Y Y
 refine Stg.go [0, 1] [2] Y Y (q_ Y (q_ Y zqz)) (eo Y (EffX.mkS hT Y Y Y Y Y Y Y Y (by decide) H.self) ?_)
 rintro _ _ ⟨v_78, h159, rfl, rfl, H⟩
 apply Stg.next [(11, _), (18, _)] Y Y
 refine Stg.go [9] [11] Y Y (qq Y (zqb (cs := [_, _, _, _, _, _, _, _]) hT Y Y Y Y Y Y) Y zqz) (eo Y (zes (i := 0) (qv := [(_, [_, _, _, _, _, _, _, _]), (_, [_, _, _, _, _, _, _, _])]) hT Y Y Y Y Y Y Y Y Y Y) ?_)
 rintro _ _ rfl
 apply Stg.next [] Y Y
 refine Stg.fin [] Y Y zqz ?_
 exact pko (HK1 _ b_30 _ H.self) [4, 2] [0, 1] Y
 refine eo Y (zea (cs := [_, _, _, _, _, _, _, _]) hT Y Y H) ?_
 rintro _ _ ⟨b_31, _, rfl, rfl, he31, H⟩
 apply Stg.next [(4, _)] Y Y
 refine Stg.go [0, 1, 5] [2, 6] Y Y (q_ Y (q_ Y (q_ Y zqz))) ?_
 refine EAll.cons ?_ ?_
 replace H := H.self
 replace H := H.1
 refine EOp.e Y Y Y (EffX.mkS hT Y Y Y Y Y Y Y Y (by decide) H) ?_
 rintro _ _ ⟨v_79, h161, rfl, rfl, H⟩
 apply Stg.next [(11, _)] Y Y
 refine Stg.go [5] [6] Y Y (q_ Y zqz) (eo Y (EffX.mkS hT Y Y Y Y Y Y Y Y (by decide) H.self) ?_)
 rintro _ _ ⟨v_80, h163, rfl, rfl, H⟩
 apply Stg.next [(15, _), (18, _)] Y Y
 refine Stg.go [9] [11] Y Y (qq Y (zqb (cs := [_, _, _, _, _, _, _, _]) hT Y Y Y Y Y Y) Y zqz) (eo Y (zes (i := 0) (qv := [(_, [_, _, _, _, _, _, _, _]), (_, [_, _, _, _, _, _, _, _])]) hT Y Y Y Y Y Y Y Y Y Y) ?_)
 rintro _ _ rfl
 apply Stg.next [] Y Y
 refine Stg.fin [] Y Y zqz ?_
 exact pko (HK1 _ b_31 _ H.self) [4, 2] [0, 1] Y
 refine EAll.cons ?_ EAll.nil
 replace H := H.self
 replace H := H.2
 refine EOp.e Y Y Y (EffX.mkS hT Y Y Y Y Y Y Y Y (by decide) H) ?_
 rintro _ _ ⟨v_81, h165, rfl, rfl, H⟩
 apply Stg.next [(15, _)] Y Y
 refine Stg.go [0, 1] [2] Y Y (q_ Y (q_ Y zqz)) (eo Y (EffX.mkS hT Y Y Y Y Y Y Y Y (by decide) H.self) ?_)
 rintro _ _ ⟨v_82, h167, rfl, rfl, H⟩
 apply Stg.next [(11, _), (18, _)] Y Y
 refine Stg.go [9] [11] Y Y (qq Y (zqb (cs := [_, _, _, _, _, _, _, _]) hT Y Y Y Y Y Y) Y zqz) (eo Y (zes (i := 0) (qv := [(_, [_, _, _, _, _, _, _, _]), (_, [_, _, _, _, _, _, _, _])]) hT Y Y Y Y Y Y Y Y Y Y) ?_)
 rintro _ _ rfl
 apply Stg.next [] Y Y
 refine Stg.fin [] Y Y zqz ?_
 exact pko (HK1 _ b_31 _ H.self) [4, 2] [0, 1] Y
 refine eo Y (zea (cs := [_, _, _, _, _, _, _, _]) hT Y Y H) ?_
 rintro _ _ ⟨b_32, _, rfl, rfl, he32, H⟩
 apply Stg.next [(4, _)] Y Y
 refine Stg.go [0, 1, 5, 7] [2, 6, 8] Y Y (q_ Y (q_ Y (q_ Y (q_ Y zqz)))) ?_
 refine EAll.cons ?_ ?_
 replace H := H.self
 replace H := H.1
 refine EOp.e Y Y Y (EffX.mkS hT Y Y Y Y Y Y Y Y (by decide) H) ?_
 rintro _ _ ⟨v_83, h169, rfl, rfl, H⟩
 apply Stg.next [(11, _)] Y Y
 refine Stg.go [5, 7] [6, 8] Y Y (q_ Y (q_ Y zqz)) ?_
 refine EAll.cons ?_ ?_
 replace H := H.self
 replace H := H.1
 refine EOp.e Y Y Y (EffX.mkS hT Y Y Y Y Y Y Y Y (by decide) H) ?_
 rintro _ _ ⟨v_84, h171, rfl, rfl, H⟩
 apply Stg.next [(15, _)] Y Y
 refine Stg.go [7] [8] Y Y (q_ Y zqz) (eo Y (EffX.mkS hT Y Y Y Y Y Y Y Y (by decide) H.self) ?_)
 rintro _ _ ⟨v_85, h173, rfl, rfl, H⟩
 apply Stg.next [(17, _), (18, _)] Y Y
 refine Stg.go [9] [11] Y Y (qq Y (zqb (cs := [_, _, _, _, _, _, _, _]) hT Y Y Y Y Y Y) Y zqz) (eo Y (zes (i := 0) (qv := [(_, [_, _, _, _, _, _, _, _]), (_, [_, _, _, _, _, _, _, _])]) hT Y Y Y Y Y Y Y Y Y Y) ?_)
 rintro _ _ rfl
 apply Stg.next [] Y Y
 refine Stg.fin [] Y Y zqz ?_
 exact pko (HK1 _ b_32 _ H.self) [4, 2] [0, 1] Y
 refine EAll.cons ?_ EAll.nil
 replace H := H.self
 replace H := H.2
 refine EOp.e Y Y Y (EffX.mkS hT Y Y Y Y Y Y Y Y (by decide) H) ?_
 rintro _ _ ⟨v_86, h175, rfl, rfl, H⟩
 apply Stg.next [(17, _)] Y Y
 refine Stg.go [5] [6] Y Y (q_ Y zqz) (eo Y (EffX.mkS hT Y Y Y Y Y Y Y Y (by decide) H.self) ?_)
 rintro _ _ ⟨v_87, h177, rfl, rfl, H⟩
 apply Stg.next [(15, _), (18, _)] Y Y
 refine Stg.go [9] [11] Y Y (qq Y (zqb (cs := [_, _, _, _, _, _, _, _]) hT Y Y Y Y Y Y) Y zqz) (eo Y (zes (i := 0) (qv := [(_, [_, _, _, _, _, _, _, _]), (_, [_, _, _, _, _, _, _, _])]) hT Y Y Y Y Y Y Y Y Y Y) ?_)
 rintro _ _ rfl
 apply Stg.next [] Y Y
 refine Stg.fin [] Y Y zqz ?_
 exact pko (HK1 _ b_32 _ H.self) [4, 2] [0, 1] Y
 refine EAll.cons ?_ ?_
 replace H := H.self
 replace H := H.2.1
 refine EOp.e Y Y Y (EffX.mkS hT Y Y Y Y Y Y Y Y (by decide) H) ?_
 rintro _ _ ⟨v_88, h179, rfl, rfl, H⟩
 apply Stg.next [(15, _)] Y Y
 refine Stg.go [0, 1, 7] [2, 8] Y Y (q_ Y (q_ Y (q_ Y zqz))) ?_
 refine EAll.cons ?_ ?_
 replace H := H.self
 replace H := H.1
 refine EOp.e Y Y Y (EffX.mkS hT Y Y Y Y Y Y Y Y (by decide) H) ?_
 rintro _ _ ⟨v_89, h181, rfl, rfl, H⟩
 apply Stg.next [(11, _)] Y Y
 refine Stg.go [7] [8] Y Y (q_ Y zqz) (eo Y (EffX.mkS hT Y Y Y Y Y Y Y Y (by decide) H.self) ?_)
 rintro _ _ ⟨v_90, h183, rfl, rfl, H⟩
 apply Stg.next [(17, _), (18, _)] Y Y
 refine Stg.go [9] [11] Y Y (qq Y (zqb (cs := [_, _, _, _, _, _, _, _]) hT Y Y Y Y Y Y) Y zqz) (eo Y (zes (i := 0) (qv := [(_, [_, _, _, _, _, _, _, _]), (_, [_, _, _, _, _, _, _, _])]) hT Y Y Y Y Y Y Y Y Y Y) ?_)
 rintro _ _ rfl
 apply Stg.next [] Y Y
 refine Stg.fin [] Y Y zqz ?_
 exact pko (HK1 _ b_32 _ H.self) [4, 2] [0, 1] Y
 refine EAll.cons ?_ EAll.nil
 replace H := H.self
 replace H := H.2
 refine EOp.e Y Y Y (EffX.mkS hT Y Y Y Y Y Y Y Y (by decide) H) ?_
 rintro _ _ ⟨v_91, h185, rfl, rfl, H⟩
 apply Stg.next [(17, _)] Y Y
 refine Stg.go [0, 1] [2] Y Y (q_ Y (q_ Y zqz)) (eo Y (EffX.mkS hT Y Y Y Y Y Y Y Y (by decide) H.self) ?_)
 rintro _ _ ⟨v_92, h187, rfl, rfl, H⟩
 apply Stg.next [(11, _), (18, _)] Y Y
 refine Stg.go [9] [11] Y Y (qq Y (zqb (cs := [_, _, _, _, _, _, _, _]) hT Y Y Y Y Y Y) Y zqz) (eo Y (zes (i := 0) (qv := [(_, [_, _, _, _, _, _, _, _]), (_, [_, _, _, _, _, _, _, _])]) hT Y Y Y Y Y Y Y Y Y Y) ?_)
 rintro _ _ rfl
 apply Stg.next [] Y Y
 refine Stg.fin [] Y Y zqz ?_
 exact pko (HK1 _ b_32 _ H.self) [4, 2] [0, 1] Y
 refine EAll.cons ?_ EAll.nil
 replace H := H.self
 replace H := H.2.2
 refine EOp.e Y Y Y (EffX.mkS hT Y Y Y Y Y Y Y Y (by decide) H) ?_
 rintro _ _ ⟨v_93, h189, rfl, rfl, H⟩
 apply Stg.next [(17, _)] Y Y
 refine Stg.go [0, 1, 5] [2, 6] Y Y (q_ Y (q_ Y (q_ Y zqz))) ?_
 refine EAll.cons ?_ ?_
 replace H := H.self
 replace H := H.1
 refine EOp.e Y Y Y (EffX.mkS hT Y Y Y Y Y Y Y Y (by decide) H) ?_
 rintro _ _ ⟨v_94, h191, rfl, rfl, H⟩
 apply Stg.next [(11, _)] Y Y
 refine Stg.go [5] [6] Y Y (q_ Y zqz) (eo Y (EffX.mkS hT Y Y Y Y Y Y Y Y (by decide) H.self) ?_)
 rintro _ _ ⟨v_95, h193, rfl, rfl, H⟩
 apply Stg.next [(15, _), (18, _)] Y Y
 refine Stg.go [9] [11] Y Y (qq Y (zqb (cs := [_, _, _, _, _, _, _, _]) hT Y Y Y Y Y Y) Y zqz) (eo Y (zes (i := 0) (qv := [(_, [_, _, _, _, _, _, _, _]), (_, [_, _, _, _, _, _, _, _])]) hT Y Y Y Y Y Y Y Y Y Y) ?_)
 rintro _ _ rfl
 apply Stg.next [] Y Y
 refine Stg.fin [] Y Y zqz ?_
 exact pko (HK1 _ b_32 _ H.self) [4, 2] [0, 1] Y
 refine EAll.cons ?_ EAll.nil
 replace H := H.self
 replace H := H.2
 refine EOp.e Y Y Y (EffX.mkS hT Y Y Y Y Y Y Y Y (by decide) H) ?_
 rintro _ _ ⟨v_96, h195, rfl, rfl, H⟩
 apply Stg.next [(15, _)] Y Y
 refine Stg.go [0, 1] [2] Y Y (q_ Y (q_ Y zqz)) (eo Y (EffX.mkS hT Y Y Y Y Y Y Y Y (by decide) H.self) ?_)
 rintro _ _ ⟨v_97, h197, rfl, rfl, H⟩
 apply Stg.next [(11, _), (18, _)] Y Y
 refine Stg.go [9] [11] Y Y (qq Y (zqb (cs := [_, _, _, _, _, _, _, _]) hT Y Y Y Y Y Y) Y zqz) (eo Y (zes (i := 0) (qv := [(_, [_, _, _, _, _, _, _, _]), (_, [_, _, _, _, _, _, _, _])]) hT Y Y Y Y Y Y Y Y Y Y) ?_)
 rintro _ _ rfl
 apply Stg.next [] Y Y
 refine Stg.fin [] Y Y zqz ?_
 exact pko (HK1 _ b_32 _ H.self) [4, 2] [0, 1] Y
 refine EAll.cons ?_ ?_
 replace H := H.self
 replace H := H.2.2.1
 refine EOp.e Y Y Y (EffX.mkS hT Y Y Y Y Y Y Y Y (by decide) H) ?_
 rintro _ _ ⟨v_98, h199, rfl, rfl, H⟩
 apply Stg.next [(15, _)] Y Y
 refine Stg.go [0, 1, 3, 7] [2, 4, 8, 10] Y Y (q_ Y (q_ Y (q_ Y (q_ Y zqz)))) ?_
 refine EAll.cons ?_ ?_
 replace H := H.self
 replace H := H.1
 refine EOp.e Y Y Y (EffX.mkS hT Y Y Y Y Y Y Y Y (by decide) H) ?_
 rintro _ _ ⟨v_99, h201, rfl, rfl, H⟩
 apply Stg.next [(11, _)] Y Y
 refine Stg.go [3, 7] [4, 8, 10] Y Y (q_ Y (q_ Y zqz)) ?_
 refine EAll.cons ?_ ?_
 replace H := H.self
 replace H := H.1
 refine EOp.e Y Y Y (EffX.mkS hT Y Y Y Y Y Y Y Y (by decide) H) ?_
 rintro _ _ ⟨v_100, h203, rfl, rfl, H⟩
 apply Stg.next [(13, _)] Y Y
 refine Stg.go [7] [8, 10] Y Y (q_ Y zqz) ?_
 refine EAll.cons ?_ ?_
 refine EOp.e Y Y Y (EffX.mkS hT Y Y Y Y Y Y Y Y (by decide) H.self) ?_
 rintro _ _ ⟨v_101, h205, rfl, rfl, H⟩
 apply Stg.next [(17, _), (18, _)] Y Y
 refine Stg.go [9] [10] Y Y (qq Y (zqb (cs := [_, _, _, _, _, _, _, _]) hT Y Y Y Y Y Y) Y zqz) (eo Y (zea (cs := [_, _, _, _, _, _, _, _]) hT Y Y H) ?_)
 rintro _ _ ⟨b_33, _, rfl, rfl, he33, H⟩
 apply Stg.next [(4, _)] Y Y
 refine Stg.go [9] [11] Y Y (qq Y (zqb (cs := [_, _, _, _, _, _, _, _]) hT Y Y Y Y Y Y) Y zqz) (eo Y (zes (i := 0) (qv := [(_, [_, _, _, _, _, _, _, _]), (_, [_, _, _, _, _, _, _, _])]) hT Y Y Y Y Y Y Y Y Y Y) ?_)
 rintro _ _ rfl
 apply Stg.next [] Y Y
 refine Stg.fin [] Y Y zqz ?_
 exact pko (HK1 _ b_33 _ H.self) [4, 2] [0, 1] Y
 refine eo Y (zea (cs := [_, _, _, _, _, _, _, _]) hT Y Y H) ?_
 rintro _ _ ⟨b_34, _, rfl, rfl, he34, H⟩
 apply Stg.next [(4, _)] Y Y
 refine Stg.go [7] [8] Y Y (q_ Y zqz) (eo Y (EffX.mkS hT Y Y Y Y Y Y Y Y (by decide) H.self) ?_)
 rintro _ _ ⟨v_102, h207, rfl, rfl, H⟩
 apply Stg.next [(17, _), (18, _)] Y Y
 refine Stg.go [9] [11] Y Y (qq Y (zqb (cs := [_, _, _, _, _, _, _, _]) hT Y Y Y Y Y Y) Y zqz) (eo Y (zes (i := 0) (qv := [(_, [_, _, _, _, _, _, _, _]), (_, [_, _, _, _, _, _, _, _])]) hT Y Y Y Y Y Y Y Y Y Y) ?_)
 rintro _ _ rfl
 apply Stg.next [] Y Y
 refine Stg.fin [] Y Y zqz ?_
 exact pko (HK1 _ b_34 _ H.self) [4, 2] [0, 1] Y
 refine EAll.cons ?_ ?_
 replace H := H.self
 replace H := H.2
 refine EOp.e Y Y Y (EffX.mkS hT Y Y Y Y Y Y Y Y (by decide) H) ?_
 rintro _ _ ⟨v_103, h209, rfl, rfl, H⟩
 apply Stg.next [(17, _)] Y Y
 refine Stg.go [3] [4, 10] Y Y (q_ Y zqz) ?_
 refine EAll.cons ?_ ?_
 refine EOp.e Y Y Y (EffX.mkS hT Y Y Y Y Y Y Y Y (by decide) H.self) ?_
 rintro _ _ ⟨v_104, h211, rfl, rfl, H⟩
 apply Stg.next [(13, _), (18, _)] Y Y
 refine Stg.go [9] [10] Y Y (qq Y (zqb (cs := [_, _, _, _, _, _, _, _]) hT Y Y Y Y Y Y) Y zqz) (eo Y (zea (cs := [_, _, _, _, _, _, _, _]) hT Y Y H) ?_)
 rintro _ _ ⟨b_35, _, rfl, rfl, he35, H⟩
 apply Stg.next [(4, _)] Y Y
 refine Stg.go [9] [11] Y Y (qq Y (zqb (cs := [_, _, _, _, _, _, _, _]) hT Y Y Y Y Y Y) Y zqz) (eo Y (zes (i := 0) (qv := [(_, [_, _, _, _, _, _, _, _]), (_, [_, _, _, _, _, _, _, _])]) hT Y Y Y Y Y Y Y Y Y Y) ?_)
 rintro _ _ rfl
 apply Stg.next [] Y Y
 refine Stg.fin [] Y Y zqz ?_
 exact pko (HK1 _ b_35 _ H.self) [4, 2] [0, 1] Y
 refine eo Y (zea (cs := [_, _, _, _, _, _, _, _]) hT Y Y H) ?_
 rintro _ _ ⟨b_36, _, rfl, rfl, he36, H⟩
 apply Stg.next [(4, _)] Y Y
 refine Stg.go [3] [4] Y Y (q_ Y zqz) (eo Y (EffX.mkS hT Y Y Y Y Y Y Y Y (by decide) H.self) ?_)
 rintro _ _ ⟨v_105, h213, rfl, rfl, H⟩
 apply Stg.next [(13, _), (18, _)] Y Y
 refine Stg.go [9] [11] Y Y (qq Y (zqb (cs := [_, _, _, _, _, _, _, _]) hT Y Y Y Y Y Y) Y zqz) (eo Y (zes (i := 0) (qv := [(_, [_, _, _, _, _, _, _, _]), (_, [_, _, _, _, _, _, _, _])]) hT Y Y Y Y Y Y Y Y Y Y) ?_)
 rintro _ _ rfl
 apply Stg.next [] Y Y
 refine Stg.fin [] Y Y zqz ?_
 exact pko (HK1 _ b_36 _ H.self) [4, 2] [0, 1] Y
 refine eo Y (zea (cs := [_, _, _, _, _, _, _, _]) hT Y Y H) ?_
 rintro _ _ ⟨b_37, _, rfl, rfl, he37, H⟩
 apply Stg.next [(4, _)] Y Y
 refine Stg.go [3, 7] [4, 8] Y Y (q_ Y (q_ Y zqz)) ?_
 refine EAll.cons ?_ ?_
 replace H := H.self
 replace H := H.1
 refine EOp.e Y Y Y (EffX.mkS hT Y Y Y Y Y Y Y Y (by decide) H) ?_
 rintro _ _ ⟨v_106, h215, rfl, rfl, H⟩
 apply Stg.next [(13, _)] Y Y
 refine Stg.go [7] [8] Y Y (q_ Y zqz) (eo Y (EffX.mkS hT Y Y Y Y Y Y Y Y (by decide) H.self) ?_)
 rintro _ _ ⟨v_107, h217, rfl, rfl, H⟩
 apply Stg.next [(17, _), (18, _)] Y Y
 refine Stg.go [9] [11] Y Y (qq Y (zqb (cs := [_, _, _, _, _, _, _, _]) hT Y Y Y Y Y Y) Y zqz) (eo Y (zes (i := 0) (qv := [(_, [_, _, _, _, _, _, _, _]), (_, [_, _, _, _, _, _, _, _])]) hT Y Y Y Y Y Y Y Y Y Y) ?_)
 rintro _ _ rfl
 apply Stg.next [] Y Y
 refine Stg.fin [] Y Y zqz ?_
 exact pko (HK1 _ b_37 _ H.self) [4, 2] [0, 1] Y
 refine EAll.cons ?_ EAll.nil
 replace H := H.self
 replace H := H.2
 refine EOp.e Y Y Y (EffX.mkS hT Y Y Y Y Y Y Y Y (by decide) H) ?_
 rintro _ _ ⟨v_108, h219, rfl, rfl, H⟩
 apply Stg.next [(17, _)] Y Y
 refine Stg.go [3] [4] Y Y (q_ Y zqz) (eo Y (EffX.mkS hT Y Y Y Y Y Y Y Y (by decide) H.self) ?_)
 rintro _ _ ⟨v_109, h221, rfl, rfl, H⟩
 apply Stg.next [(13, _), (18, _)] Y Y
 refine Stg.go [9] [11] Y Y (qq Y (zqb (cs := [_, _, _, _, _, _, _, _]) hT Y Y Y Y Y Y) Y zqz) (eo Y (zes (i := 0) (qv := [(_, [_, _, _, _, _, _, _, _]), (_, [_, _, _, _, _, _, _, _])]) hT Y Y Y Y Y Y Y Y Y Y) ?_)
 rintro _ _ rfl
 apply Stg.next [] Y Y
 refine Stg.fin [] Y Y zqz ?_
 exact pko (HK1 _ b_37 _ H.self) [4, 2] [0, 1] Y
 refine EAll.cons ?_ ?_
 replace H := H.self
 replace H := H.2.1
 refine EOp.e Y Y Y (EffX.mkS hT Y Y Y Y Y Y Y Y (by decide) H) ?_
 rintro _ _ ⟨v_110, h223, rfl, rfl, H⟩
 apply Stg.next [(13, _)] Y Y
 refine Stg.go [0, 1, 7] [2, 8, 10] Y Y (q_ Y (q_ Y (q_ Y zqz))) ?_
 refine EAll.cons ?_ ?_
 replace H := H.self
 replace H := H.1
 refine EOp.e Y Y Y (EffX.mkS hT Y Y Y Y Y Y Y Y (by decide) H) ?_
 rintro _ _ ⟨v_111, h225, rfl, rfl, H⟩
 apply Stg.next [(11, _)] Y Y
 refine Stg.go [7] [8, 10] Y Y (q_ Y zqz) ?_
 refine EAll.cons ?_ ?_
 refine EOp.e Y Y Y (EffX.mkS hT Y Y Y Y Y Y Y Y (by decide) H.self) ?_
 rintro _ _ ⟨v_112, h227, rfl, rfl, H⟩
 apply Stg.next [(17, _), (18, _)] Y Y
 refine Stg.go [9] [10] Y Y (qq Y (zqb (cs := [_, _, _, _, _, _, _, _]) hT Y Y Y Y Y Y) Y zqz) (eo Y (zea (cs := [_, _, _, _, _, _, _, _]) hT Y Y H) ?_)
 rintro _ _ ⟨b_38, _, rfl, rfl, he38, H⟩
 apply Stg.next [(4, _)] Y Y
 refine Stg.go [9] [11] Y Y (qq Y (zqb (cs := [_, _, _, _, _, _, _, _]) hT Y Y Y Y Y Y) Y zqz) (eo Y (zes (i := 0) (qv := [(_, [_, _, _, _, _, _, _, _]), (_, [_, _, _, _, _, _, _, _])]) hT Y Y Y Y Y Y Y Y Y Y) ?_)
 rintro _ _ rfl
 apply Stg.next [] Y Y
 refine Stg.fin [] Y Y zqz ?_
 exact pko (HK1 _ b_38 _ H.self) [4, 2] [0, 1] Y
 refine eo Y (zea (cs := [_, _, _, _, _, _, _, _]) hT Y Y H) ?_
 rintro _ _ ⟨b_39, _, rfl, rfl, he39, H⟩
 apply Stg.next [(4, _)] Y Y
 refine Stg.go [7] [8] Y Y (q_ Y zqz) (eo Y (EffX.mkS hT Y Y Y Y Y Y Y Y (by decide) H.self) ?_)
 rintro _ _ ⟨v_113, h229, rfl, rfl, H⟩
 apply Stg.next [(17, _), (18, _)] Y Y
 refine Stg.go [9] [11] Y Y (qq Y (zqb (cs := [_, _, _, _, _, _, _, _]) hT Y Y Y Y Y Y) Y zqz) (eo Y (zes (i := 0) (qv := [(_, [_, _, _, _, _, _, _, _]), (_, [_, _, _, _, _, _, _, _])]) hT Y Y Y Y Y Y Y Y Y Y) ?_)
 rintro _ _ rfl
 apply Stg.next [] Y Y
 refine Stg.fin [] Y Y zqz ?_
 exact pko (HK1 _ b_39 _ H.self) [4, 2] [0, 1] Y
 refine EAll.cons ?_ ?_
 replace H := H.self
 replace H := H.2
 refine EOp.e Y Y Y (EffX.mkS hT Y Y Y Y Y Y Y Y (by decide) H) ?_
 rintro _ _ ⟨v_114, h231, rfl, rfl, H⟩
 apply Stg.next [(17, _)] Y Y
 refine Stg.go [0, 1] [2, 10] Y Y (q_ Y (q_ Y zqz)) ?_
 refine EAll.cons ?_ ?_
 refine EOp.e Y Y Y (EffX.mkS hT Y Y Y Y Y Y Y Y (by decide) H.self) ?_
 rintro _ _ ⟨v_115, h233, rfl, rfl, H⟩
 apply Stg.next [(11, _), (18, _)] Y Y
 refine Stg.go [9] [10] Y Y (qq Y (zqb (cs := [_, _, _, _, _, _, _, _]) hT Y Y Y Y Y Y) Y zqz) (eo Y (zea (cs := [_, _, _, _, _, _, _, _]) hT Y Y H) ?_)
 rintro _ _ ⟨b_40, _, rfl, rfl, he40, H⟩
 apply Stg.next [(4, _)] Y Y
 refine Stg.go [9] [11] Y Y (qq Y (zqb (cs := [_, _, _, _, _, _, _, _]) hT Y Y Y Y Y Y) Y zqz) (eo Y (zes (i := 0) (qv := [(_, [_, _, _, _, _, _, _, _]), (_, [_, _, _, _, _, _, _, _])]) hT Y Y Y Y Y Y Y Y Y Y) ?_)
 rintro _ _ rfl
 apply Stg.next [] Y Y
 refine Stg.fin [] Y Y zqz ?_
 exact pko (HK1 _ b_40 _ H.self) [4, 2] [0, 1] Y
 refine eo Y (zea (cs := [_, _, _, _, _, _, _, _]) hT Y Y H) ?_
 rintro _ _ ⟨b_41, _, rfl, rfl, he41, H⟩
 apply Stg.next [(4, _)] Y Y
 refine Stg.go [0, 1] [2] Y Y (q_ Y (q_ Y zqz)) (eo Y (EffX.mkS hT Y Y Y Y Y Y Y Y (by decide) H.self) ?_)
 rintro _ _ ⟨v_116, h235, rfl, rfl, H⟩
 apply Stg.next [(11, _), (18, _)] Y Y
 refine Stg.go [9] [11] Y Y (qq Y (zqb (cs := [_, _, _, _, _, _, _, _]) hT Y Y Y Y Y Y) Y zqz) (eo Y (zes (i := 0) (qv := [(_, [_, _, _, _, _, _, _, _]), (_, [_, _, _, _, _, _, _, _])]) hT Y Y Y Y Y Y Y Y Y Y) ?_)
 rintro _ _ rfl
 apply Stg.next [] Y Y
 refine Stg.fin [] Y Y zqz ?_
 exact pko (HK1 _ b_41 _ H.self) [4, 2] [0, 1] Y
 refine eo Y (zea (cs := [_, _, _, _, _, _, _, _]) hT Y Y H) ?_
 rintro _ _ ⟨b_42, _, rfl, rfl, he42, H⟩
 apply Stg.next [(4, _)] Y Y
 refine Stg.go [0, 1, 7] [2, 8] Y Y (q_ Y (q_ Y (q_ Y zqz))) ?_
 refine EAll.cons ?_ ?_
 replace H := H.self
 replace H := H.1
 refine EOp.e Y Y Y (EffX.mkS hT Y Y Y Y Y Y Y Y (by decide) H) ?_
 rintro _ _ ⟨v_117, h237, rfl, rfl, H⟩
 apply Stg.next [(11, _)] Y Y
 refine Stg.go [7] [8] Y Y (q_ Y zqz) (eo Y (EffX.mkS hT Y Y Y Y Y Y Y Y (by decide) H.self) ?_)
 rintro _ _ ⟨v_118, h239, rfl, rfl, H⟩
 apply Stg.next [(17, _), (18, _)] Y Y
 refine Stg.go [9] [11] Y Y (qq Y (zqb (cs := [_, _, _, _, _, _, _, _]) hT Y Y Y Y Y Y) Y zqz) (eo Y (zes (i := 0) (qv := [(_, [_, _, _, _, _, _, _, _]), (_, [_, _, _, _, _, _, _, _])]) hT Y Y Y Y Y Y Y Y Y Y) ?_)
 rintro _ _ rfl
 apply Stg.next [] Y Y
 refine Stg.fin [] Y Y zqz ?_
 exact pko (HK1 _ b_42 _ H.self) [4, 2] [0, 1] Y
 refine EAll.cons ?_ EAll.nil
 replace H := H.self
 replace H := H.2
 refine EOp.e Y Y Y (EffX.mkS hT Y Y Y Y Y Y Y Y (by decide) H) ?_
 rintro _ _ ⟨v_119, h241, rfl, rfl, H⟩
 apply Stg.next [(17, _)] Y Y
 refine Stg.go [0, 1] [2] Y Y (q_ Y (q_ Y zqz)) (eo Y (EffX.mkS hT Y Y Y Y Y Y Y Y (by decide) H.self) ?_)
 rintro _ _ ⟨v_120, h243, rfl, rfl, H⟩
 apply Stg.next [(11, _), (18, _)] Y Y
 refine Stg.go [9] [11] Y Y (qq Y (zqb (cs := [_, _, _, _, _, _, _, _]) hT Y Y Y Y Y Y) Y zqz) (eo Y (zes (i := 0) (qv := [(_, [_, _, _, _, _, _, _, _]), (_, [_, _, _, _, _, _, _, _])]) hT Y Y Y Y Y Y Y Y Y Y) ?_)
 rintro _ _ rfl
 apply Stg.next [] Y Y
 refine Stg.fin [] Y Y zqz ?_
 exact pko (HK1 _ b_42 _ H.self) [4, 2] [0, 1] Y
 refine EAll.cons ?_ ?_
 replace H := H.self
 replace H := H.2.2
 refine EOp.e Y Y Y (EffX.mkS hT Y Y Y Y Y Y Y Y (by decide) H) ?_
 rintro _ _ ⟨v_121, h245, rfl, rfl, H⟩
 apply Stg.next [(17, _)] Y Y
 refine Stg.go [0, 1, 3] [2, 4, 10] Y Y (q_ Y (q_ Y (q_ Y zqz))) ?_
 refine EAll.cons ?_ ?_
 replace H := H.self
 replace H := H.1
 refine EOp.e Y Y Y (EffX.mkS hT Y Y Y Y Y Y Y Y (by decide) H) ?_
 rintro _ _ ⟨v_122, h247, rfl, rfl, H⟩
 apply Stg.next [(11, _)] Y Y
 refine Stg.go [3] [4, 10] Y Y (q_ Y zqz) ?_
 refine EAll.cons ?_ ?_
 refine EOp.e Y Y Y (EffX.mkS hT Y Y Y Y Y Y Y Y (by decide) H.self) ?_
 rintro _ _ ⟨v_123, h249, rfl, rfl, H⟩
 apply Stg.next [(13, _), (18, _)] Y Y
 refine Stg.go [9] [10] Y Y (qq Y (zqb (cs := [_, _, _, _, _, _, _, _]) hT Y Y Y Y Y Y) Y zqz) (eo Y (zea (cs := [_, _, _, _, _, _, _, _]) hT Y Y H) ?_)
 rintro _ _ ⟨b_43, _, rfl, rfl, he43, H⟩
 apply Stg.next [(4, _)] Y Y
 refine Stg.go [9] [11] Y Y (qq Y (zqb (cs := [_, _, _, _, _, _, _, _]) hT Y Y Y Y Y Y) Y zqz) (eo Y (zes (i := 0) (qv := [(_, [_, _, _, _, _, _, _, _]), (_, [_, _, _, _, _, _, _, _])]) hT Y Y Y Y Y Y Y Y Y Y) ?_)
 rintro _ _ rfl
 apply Stg.next [] Y Y
 refine Stg.fin [] Y Y zqz ?_
 exact pko (HK1 _ b_43 _ H.self) [4, 2] [0, 1] Y
 refine eo Y (zea (cs := [_, _, _, _, _, _, _, _]) hT Y Y H) ?_
 rintro _ _ ⟨b_44, _, rfl, rfl, he44, H⟩
 apply Stg.next [(4, _)] Y Y
 refine Stg.go [3] [4] Y Y (q_ Y zqz) (eo Y (EffX.mkS hT Y Y Y Y Y Y Y Y (by decide) H.self) ?_)
 rintro _ _ ⟨v_124, h251, rfl, rfl, H⟩
 apply Stg.next [(13, _), (18, _)] Y Y
 refine Stg.go [9] [11] Y Y (qq Y (zqb (cs := [_, _, _, _, _, _, _, _]) hT Y Y Y Y Y Y) Y zqz) (eo Y (zes (i := 0) (qv := [(_, [_, _, _, _, _, _, _, _]), (_, [_, _, _, _, _, _, _, _])]) hT Y Y Y Y Y Y Y Y Y Y) ?_)
 rintro _ _ rfl
 apply Stg.next [] Y Y
 refine Stg.fin [] Y Y zqz ?_
 exact pko (HK1 _ b_44 _ H.self) [4, 2] [0, 1] Y
 refine EAll.cons ?_ ?_
 replace H := H.self
 replace H := H.2
 refine EOp.e Y Y Y (EffX.mkS hT Y Y Y Y Y Y Y Y (by decide) H) ?_
 rintro _ _ ⟨v_125, h253, rfl, rfl, H⟩
 apply Stg.next [(13, _)] Y Y
 refine Stg.go [0, 1] [2, 10] Y Y (q_ Y (q_ Y zqz)) ?_
 refine EAll.cons ?_ ?_
 refine EOp.e Y Y Y (EffX.mkS hT Y Y Y Y Y Y Y Y (by decide) H.self) ?_
 rintro _ _ ⟨v_126, h255, rfl, rfl, H⟩
 apply Stg.next [(11, _), (18, _)] Y Y
 refine Stg.go [9] [10] Y Y (qq Y (zqb (cs := [_, _, _, _, _, _, _, _]) hT Y Y Y Y Y Y) Y zqz) (eo Y (zea (cs := [_, _, _, _, _, _, _, _]) hT Y Y H) ?_)
 rintro _ _ ⟨b_45, _, rfl, rfl, he45, H⟩
 apply Stg.next [(4, _)] Y Y
 refine Stg.go [9] [11] Y Y (qq Y (zqb (cs := [_, _, _, _, _, _, _, _]) hT Y Y Y Y Y Y) Y zqz) (eo Y (zes (i := 0) (qv := [(_, [_, _, _, _, _, _, _, _]), (_, [_, _, _, _, _, _, _, _])]) hT Y Y Y Y Y Y Y Y Y Y) ?_)
 rintro _ _ rfl
 apply Stg.next [] Y Y
 refine Stg.fin [] Y Y zqz ?_
 exact pko (HK1 _ b_45 _ H.self) [4, 2] [0, 1] Y
 refine eo Y (zea (cs := [_, _, _, _, _, _, _, _]) hT Y Y H) ?_
 rintro _ _ ⟨b_46, _, rfl, rfl, he46, H⟩
 apply Stg.next [(4, _)] Y Y
 refine Stg.go [0, 1] [2] Y Y (q_ Y (q_ Y zqz)) (eo Y (EffX.mkS hT Y Y Y Y Y Y Y Y (by decide) H.self) ?_)
 rintro _ _ ⟨v_127, h257, rfl, rfl, H⟩
 apply Stg.next [(11, _), (18, _)] Y Y
 refine Stg.go [9] [11] Y Y (qq Y (zqb (cs := [_, _, _, _, _, _, _, _]) hT Y Y Y Y Y Y) Y zqz) (eo Y (zes (i := 0) (qv := [(_, [_, _, _, _, _, _, _, _]), (_, [_, _, _, _, _, _, _, _])]) hT Y Y Y Y Y Y Y Y Y Y) ?_)
 rintro _ _ rfl
 apply Stg.next [] Y Y
 refine Stg.fin [] Y Y zqz ?_
 exact pko (HK1 _ b_46 _ H.self) [4, 2] [0, 1] Y
 refine eo Y (zea (cs := [_, _, _, _, _, _, _, _]) hT Y Y H) ?_
 rintro _ _ ⟨b_47, _, rfl, rfl, he47, H⟩
 apply Stg.next [(4, _)] Y Y
 refine Stg.go [0, 1, 3] [2, 4] Y Y (q_ Y (q_ Y (q_ Y zqz))) ?_
 refine EAll.cons ?_ ?_
 replace H := H.self
 replace H := H.1
 refine EOp.e Y Y Y (EffX.mkS hT Y Y Y Y Y Y Y Y (by decide) H) ?_
 rintro _ _ ⟨v_128, h259, rfl, rfl, H⟩
 apply Stg.next [(11, _)] Y Y
 refine Stg.go [3] [4] Y Y (q_ Y zqz) (eo Y (EffX.mkS hT Y Y Y Y Y Y Y Y (by decide) H.self) ?_)
 rintro _ _ ⟨v_129, h261, rfl, rfl, H⟩
 apply Stg.next [(13, _), (18, _)] Y Y
 refine Stg.go [9] [11] Y Y (qq Y (zqb (cs := [_, _, _, _, _, _, _, _]) hT Y Y Y Y Y Y) Y zqz) (eo Y (zes (i := 0) (qv := [(_, [_, _, _, _, _, _, _, _]), (_, [_, _, _, _, _, _, _, _])]) hT Y Y Y Y Y Y Y Y Y Y) ?_)
 rintro _ _ rfl
 apply Stg.next [] Y Y
 refine Stg.fin [] Y Y zqz ?_
 exact pko (HK1 _ b_47 _ H.self) [4, 2] [0, 1] Y
 refine EAll.cons ?_ EAll.nil
 replace H := H.self
 replace H := H.2
 refine EOp.e Y Y Y (EffX.mkS hT Y Y Y Y Y Y Y Y (by decide) H) ?_
 rintro _ _ ⟨v_130, h263, rfl, rfl, H⟩
 apply Stg.next [(13, _)] Y Y
 refine Stg.go [0, 1] [2] Y Y (q_ Y (q_ Y zqz)) (eo Y (EffX.mkS hT Y Y Y Y Y Y Y Y (by decide) H.self) ?_)
 rintro _ _ ⟨v_131, h265, rfl, rfl, H⟩
 apply Stg.next [(11, _), (18, _)] Y Y
 refine Stg.go [9] [11] Y Y (qq Y (zqb (cs := [_, _, _, _, _, _, _, _]) hT Y Y Y Y Y Y) Y zqz) (eo Y (zes (i := 0) (qv := [(_, [_, _, _, _, _, _, _, _]), (_, [_, _, _, _, _, _, _, _])]) hT Y Y Y Y Y Y Y Y Y Y) ?_)
 rintro _ _ rfl
 apply Stg.next [] Y Y
 refine Stg.fin [] Y Y zqz ?_
 exact pko (HK1 _ b_47 _ H.self) [4, 2] [0, 1] Y
 refine eo Y (zea (cs := [_, _, _, _, _, _, _, _]) hT Y Y H) ?_
 rintro _ _ ⟨b_48, _, rfl, rfl, he48, H⟩
 apply Stg.next [(4, _)] Y Y
 refine Stg.go [0, 1, 3, 7] [2, 4, 8] Y Y (q_ Y (q_ Y (q_ Y (q_ Y zqz)))) ?_
 refine EAll.cons ?_ ?_
 replace H := H.self
 replace H := H.1
 refine EOp.e Y Y Y (EffX.mkS hT Y Y Y Y Y Y Y Y (by decide) H) ?_
 rintro _ _ ⟨v_132, h267, rfl, rfl, H⟩
 apply Stg.next [(11, _)] Y Y
 refine Stg.go [3, 7] [4, 8] Y Y (q_ Y (q_ Y zqz)) ?_
 refine EAll.cons ?_ ?_
 replace H := H.self
 replace H := H.1
 refine EOp.e Y Y Y (EffX.mkS hT Y Y Y Y Y Y Y Y (by decide) H) ?_
 rintro _ _ ⟨v_133, h269, rfl, rfl, H⟩
 apply Stg.next [(13, _)] Y Y
 refine Stg.go [7] [8] Y Y (q_ Y zqz) (eo Y (EffX.mkS hT Y Y Y Y Y Y Y Y (by decide) H.self) ?_)
 rintro _ _ ⟨v_134, h271, rfl, rfl, H⟩
 apply Stg.next [(17, _), (18, _)] Y Y
 refine Stg.go [9] [11] Y Y (qq Y (zqb (cs := [_, _, _, _, _, _, _, _]) hT Y Y Y Y Y Y) Y zqz) (eo Y (zes (i := 0) (qv := [(_, [_, _, _, _, _, _, _, _]), (_, [_, _, _, _, _, _, _, _])]) hT Y Y Y Y Y Y Y Y Y Y) ?_)
 rintro _ _ rfl
 apply Stg.next [] Y Y
 refine Stg.fin [] Y Y zqz ?_
 exact pko (HK1 _ b_48 _ H.self) [4, 2] [0, 1] Y
 refine EAll.cons ?_ EAll.nil
 replace H := H.self
 replace H := H.2
 refine EOp.e Y Y Y (EffX.mkS hT Y Y Y Y Y Y Y Y (by decide) H) ?_
 rintro _ _ ⟨v_135, h273, rfl, rfl, H⟩
 apply Stg.next [(17, _)] Y Y
 refine Stg.go [3] [4] Y Y (q_ Y zqz) (eo Y (EffX.mkS hT Y Y Y Y Y Y Y Y (by decide) H.self) ?_)
 rintro _ _ ⟨v_136, h275, rfl, rfl, H⟩
 apply Stg.next [(13, _), (18, _)] Y Y
 refine Stg.go [9] [11] Y Y (qq Y (zqb (cs := [_, _, _, _, _, _, _, _]) hT Y Y Y Y Y Y) Y zqz) (eo Y (zes (i := 0) (qv := [(_, [_, _, _, _, _, _, _, _]), (_, [_, _, _, _, _, _, _, _])]) hT Y Y Y Y Y Y Y Y Y Y) ?_)
 rintro _ _ rfl
 apply Stg.next [] Y Y
 refine Stg.fin [] Y Y zqz ?_
 exact pko (HK1 _ b_48 _ H.self) [4, 2] [0, 1] Y
 refine EAll.cons ?_ ?_
 replace H := H.self
 replace H := H.2.1
 refine EOp.e Y Y Y (EffX.mkS hT Y Y Y Y Y Y Y Y (by decide) H) ?_
 rintro _ _ ⟨v_137, h277, rfl, rfl, H⟩
 apply Stg.next [(13, _)] Y Y
 refine Stg.go [0, 1, 7] [2, 8] Y Y (q_ Y (q_ Y (q_ Y zqz))) ?_
 refine EAll.cons ?_ ?_
 replace H := H.self
 replace H := H.1
 refine EOp.e Y Y Y (EffX.mkS hT Y Y Y Y Y Y Y Y (by decide) H) ?_
 rintro _ _ ⟨v_138, h279, rfl, rfl, H⟩
 apply Stg.next [(11, _)] Y Y
 refine Stg.go [7] [8] Y Y (q_ Y zqz) (eo Y (EffX.mkS hT Y Y Y Y Y Y Y Y (by decide) H.self) ?_)
 rintro _ _ ⟨v_139, h281, rfl, rfl, H⟩
 apply Stg.next [(17, _), (18, _)] Y Y
 refine Stg.go [9] [11] Y Y (qq Y (zqb (cs := [_, _, _, _, _, _, _, _]) hT Y Y Y Y Y Y) Y zqz) (eo Y (zes (i := 0) (qv := [(_, [_, _, _, _, _, _, _, _]), (_, [_, _, _, _, _, _, _, _])]) hT Y Y Y Y Y Y Y Y Y Y) ?_)
 rintro _ _ rfl
 apply Stg.next [] Y Y
 refine Stg.fin [] Y Y zqz ?_
 exact pko (HK1 _ b_48 _ H.self) [4, 2] [0, 1] Y
 refine EAll.cons ?_ EAll.nil
 replace H := H.self
 replace H := H.2
 refine EOp.e Y Y Y (EffX.mkS hT Y Y Y Y Y Y Y Y (by decide) H) ?_
 rintro _ _ ⟨v_140, h283, rfl, rfl, H⟩
 apply Stg.next [(17, _)] Y Y
 refine Stg.go [0, 1] [2] Y Y (q_ Y (q_ Y zqz)) (eo Y (EffX.mkS hT Y Y Y Y Y Y Y Y (by decide) H.self) ?_)
 rintro _ _ ⟨v_141, h285, rfl, rfl, H⟩
 apply Stg.next [(11, _), (18, _)] Y Y
 refine Stg.go [9] [11] Y Y (qq Y (zqb (cs := [_, _, _, _, _, _, _, _]) hT Y Y Y Y Y Y) Y zqz) (eo Y (zes (i := 0) (qv := [(_, [_, _, _, _, _, _, _, _]), (_, [_, _, _, _, _, _, _, _])]) hT Y Y Y Y Y Y Y Y Y Y) ?_)
 rintro _ _ rfl
 apply Stg.next [] Y Y
 refine Stg.fin [] Y Y zqz ?_
 exact pko (HK1 _ b_48 _ H.self) [4, 2] [0, 1] Y
 refine EAll.cons ?_ EAll.nil
 replace H := H.self
 replace H := H.2.2
 refine EOp.e Y Y Y (EffX.mkS hT Y Y Y Y Y Y Y Y (by decide) H) ?_
 rintro _ _ ⟨v_142, h287, rfl, rfl, H⟩
 apply Stg.next [(17, _)] Y Y
 refine Stg.go [0, 1, 3] [2, 4] Y Y (q_ Y (q_ Y (q_ Y zqz))) ?_
 refine EAll.cons ?_ ?_
 replace H := H.self
 replace H := H.1
 refine EOp.e Y Y Y (EffX.mkS hT Y Y Y Y Y Y Y Y (by decide) H) ?_
 rintro _ _ ⟨v_143, h289, rfl, rfl, H⟩
 apply Stg.next [(11, _)] Y Y
 refine Stg.go [3] [4] Y Y (q_ Y zqz) (eo Y (EffX.mkS hT Y Y Y Y Y Y Y Y (by decide) H.self) ?_)
 rintro _ _ ⟨v_144, h291, rfl, rfl, H⟩
 apply Stg.next [(13, _), (18, _)] Y Y
 refine Stg.go [9] [11] Y Y (qq Y (zqb (cs := [_, _, _, _, _, _, _, _]) hT Y Y Y Y Y Y) Y zqz) (eo Y (zes (i := 0) (qv := [(_, [_, _, _, _, _, _, _, _]), (_, [_, _, _, _, _, _, _, _])]) hT Y Y Y Y Y Y Y Y Y Y) ?_)
 rintro _ _ rfl
 apply Stg.next [] Y Y
 refine Stg.fin [] Y Y zqz ?_
 exact pko (HK1 _ b_48 _ H.self) [4, 2] [0, 1] Y
 refine EAll.cons ?_ EAll.nil
 replace H := H.self
 replace H := H.2
 refine EOp.e Y Y Y (EffX.mkS hT Y Y Y Y Y Y Y Y (by decide) H) ?_
 rintro _ _ ⟨v_145, h293, rfl, rfl, H⟩
 apply Stg.next [(13, _)] Y Y
 refine Stg.go [0, 1] [2] Y Y (q_ Y (q_ Y zqz)) (eo Y (EffX.mkS hT Y Y Y Y Y Y Y Y (by decide) H.self) ?_)
 rintro _ _ ⟨v_146, h295, rfl, rfl, H⟩
 apply Stg.next [(11, _), (18, _)] Y Y
 refine Stg.go [9] [11] Y Y (qq Y (zqb (cs := [_, _, _, _, _, _, _, _]) hT Y Y Y Y Y Y) Y zqz) (eo Y (zes (i := 0) (qv := [(_, [_, _, _, _, _, _, _, _]), (_, [_, _, _, _, _, _, _, _])]) hT Y Y Y Y Y Y Y Y Y Y) ?_)
 rintro _ _ rfl
 apply Stg.next [] Y Y
 refine Stg.fin [] Y Y zqz ?_
 exact pko (HK1 _ b_48 _ H.self) [4, 2] [0, 1] Y
 refine EAll.cons ?_ ?_
 replace H := H.self
 replace H := H.2.2.2
 refine EOp.e Y Y Y (EffX.mkS hT Y Y Y Y Y Y Y Y (by decide) H) ?_
 rintro _ _ ⟨v_147, h297, rfl, rfl, H⟩
 apply Stg.next [(17, _)] Y Y
 refine Stg.go [0, 1, 3, 5] [2, 4, 6, 10] Y Y (q_ Y (q_ Y (q_ Y (q_ Y zqz)))) ?_
 refine EAll.cons ?_ ?_
 replace H := H.self
 replace H := H.1
 refine EOp.e Y Y Y (EffX.mkS hT Y Y Y Y Y Y Y Y (by decide) H) ?_
 rintro _ _ ⟨v_148, h299, rfl, rfl, H⟩
 apply Stg.next [(11, _)] Y Y
 refine Stg.go [3, 5] [4, 6, 10] Y Y (q_ Y (q_ Y zqz)) ?_
 refine EAll.cons ?_ ?_
 replace H := H.self
 replace H := H.1
 refine EOp.e Y Y Y (EffX.mkS hT Y Y Y Y Y Y Y Y (by decide) H) ?_
 rintro _ _ ⟨v_149, h301, rfl, rfl, H⟩
 apply Stg.next [(13, _)] Y Y
 refine Stg.go [5] [6, 10] Y Y (q_ Y zqz) ?_
 refine EAll.cons ?_ ?_
 refine EOp.e Y Y Y (EffX.mkS hT Y Y Y Y Y Y Y Y (by decide) H.self) ?_
 rintro _ _ ⟨v_150, h303, rfl, rfl, H⟩
 apply Stg.next [(15, _), (18, _)] Y Y
 refine Stg.go [9] [10] Y Y (qq Y (zqb (cs := [_, _, _, _, _, _, _, _]) hT Y Y Y Y Y Y) Y zqz) (eo Y (zea (cs := [_, _, _, _, _, _, _, _]) hT Y Y H) ?_)
 rintro _ _ ⟨b_49, _, rfl, rfl, he49, H⟩
 apply Stg.next [(4, _)] Y Y
 refine Stg.go [9] [11] Y Y (qq Y (zqb (cs := [_, _, _, _, _, _, _, _]) hT Y Y Y Y Y Y) Y zqz) (eo Y (zes (i := 0) (qv := [(_, [_, _, _, _, _, _, _, _]), (_, [_, _, _, _, _, _, _, _])]) hT Y Y Y Y Y Y Y Y Y Y) ?_)
 rintro _ _ rfl
 apply Stg.next [] Y Y
 refine Stg.fin [] Y Y zqz ?_
 exact pko (HK1 _ b_49 _ H.self) [4, 2] [0, 1] Y
 refine eo Y (zea (cs := [_, _, _, _, _, _, _, _]) hT Y Y H) ?_
 rintro _ _ ⟨b_50, _, rfl, rfl, he50, H⟩
 apply Stg.next [(4, _)] Y Y
 refine Stg.go [5] [6] Y Y (q_ Y zqz) (eo Y (EffX.mkS hT Y Y Y Y Y Y Y Y (by decide) H.self) ?_)
 rintro _ _ ⟨v_151, h305, rfl, rfl, H⟩
 apply Stg.next [(15, _), (18, _)] Y Y
 refine Stg.go [9] [11] Y Y (qq Y (zqb (cs := [_, _, _, _, _, _, _, _]) hT Y Y Y Y Y Y) Y zqz) (eo Y (zes (i := 0) (qv := [(_, [_, _, _, _, _, _, _, _]), (_, [_, _, _, _, _, _, _, _])]) hT Y Y Y Y Y Y Y Y Y Y) ?_)
 rintro _ _ rfl
 apply Stg.next [] Y Y
 refine Stg.fin [] Y Y zqz ?_
 exact pko (HK1 _ b_50 _ H.self) [4, 2] [0, 1] Y
 refine EAll.cons ?_ ?_
 replace H := H.self
 replace H := H.2
 refine EOp.e Y Y Y (EffX.mkS hT Y Y Y Y Y Y Y Y (by decide) H) ?_
 rintro _ _ ⟨v_152, h307, rfl, rfl, H⟩
 apply Stg.next [(15, _)] Y Y
 refine Stg.go [3] [4, 10] Y Y (q_ Y zqz) ?_
 refine EAll.cons ?_ ?_
 refine EOp.e Y Y Y (EffX.mkS hT Y Y Y Y Y Y Y Y (by decide) H.self) ?_
 rintro _ _ ⟨v_153, h309, rfl, rfl, H⟩
 apply Stg.next [(13, _), (18, _)] Y Y
 refine Stg.go [9] [10] Y Y (qq Y (zqb (cs := [_, _, _, _, _, _, _, _]) hT Y Y Y Y Y Y) Y zqz) (eo Y (zea (cs := [_, _, _, _, _, _, _, _]) hT Y Y H) ?_)
 rintro _ _ ⟨b_51, _, rfl, rfl, he51, H⟩
 apply Stg.next [(4, _)] Y Y
 refine Stg.go [9] [11] Y Y (qq Y (zqb (cs := [_, _, _, _, _, _, _, _]) hT Y Y Y Y Y Y) Y zqz) (eo Y (zes (i := 0) (qv := [(_, [_, _, _, _, _, _, _, _]), (_, [_, _, _, _, _, _, _, _])]) hT Y Y Y Y Y Y Y Y Y Y) ?_)
 rintro _ _ rfl
 apply Stg.next [] Y Y
 refine Stg.fin [] Y Y zqz ?_
 exact pko (HK1 _ b_51 _ H.self) [4, 2] [0, 1] Y
 refine eo Y (zea (cs := [_, _, _, _, _, _, _, _]) hT Y Y H) ?_
 rintro _ _ ⟨b_52, _, rfl, rfl, he52, H⟩
 apply Stg.next [(4, _)] Y Y
 refine Stg.go [3] [4] Y Y (q_ Y zqz) (eo Y (EffX.mkS hT Y Y Y Y Y Y Y Y (by decide) H.self) ?_)
 rintro _ _ ⟨v_154, h311, rfl, rfl, H⟩
 apply Stg.next [(13, _), (18, _)] Y Y
 refine Stg.go [9] [11] Y Y (qq Y (zqb (cs := [_, _, _, _, _, _, _, _]) hT Y Y Y Y Y Y) Y zqz) (eo Y (zes (i := 0) (qv := [(_, [_, _, _, _, _, _, _, _]), (_, [_, _, _, _, _, _, _, _])]) hT Y Y Y Y Y Y Y Y Y Y) ?_)
 rintro _ _ rfl
 apply Stg.next [] Y Y
 refine Stg.fin [] Y Y zqz ?_
 exact pko (HK1 _ b_52 _ H.self) [4, 2] [0, 1] Y
 refine eo Y (zea (cs := [_, _, _, _, _, _, _, _]) hT Y Y H) ?_
 rintro _ _ ⟨b_53, _, rfl, rfl, he53, H⟩
 apply Stg.next [(4, _)] Y Y
 refine Stg.go [3, 5] [4, 6] Y Y (q_ Y (q_ Y zqz)) ?_
 refine EAll.cons ?_ ?_
 replace H := H.self
 replace H := H.1
 refine EOp.e Y Y Y (EffX.mkS hT Y Y Y Y Y Y Y Y (by decide) H) ?_
 rintro _ _ ⟨v_155, h313, rfl, rfl, H⟩
 apply Stg.next [(13, _)] Y Y
 refine Stg.go [5] [6] Y Y (q_ Y zqz) (eo Y (EffX.mkS hT Y Y Y Y Y Y Y Y (by decide) H.self) ?_)
 rintro _ _ ⟨v_156, h315, rfl, rfl, H⟩
 apply Stg.next [(15, _), (18, _)] Y Y
 refine Stg.go [9] [11] Y Y (qq Y (zqb (cs := [_, _, _, _, _, _, _, _]) hT Y Y Y Y Y Y) Y zqz) (eo Y (zes (i := 0) (qv := [(_, [_, _, _, _, _, _, _, _]), (_, [_, _, _, _, _, _, _, _])]) hT Y Y Y Y Y Y Y Y Y Y) ?_)
 rintro _ _ rfl
 apply Stg.next [] Y Y
 refine Stg.fin [] Y Y zqz ?_
 exact pko (HK1 _ b_53 _ H.self) [4, 2] [0, 1] Y
 refine EAll.cons ?_ EAll.nil
 replace H := H.self
 replace H := H.2
 refine EOp.e Y Y Y (EffX.mkS hT Y Y Y Y Y Y Y Y (by decide) H) ?_
 rintro _ _ ⟨v_157, h317, rfl, rfl, H⟩
 apply Stg.next [(15, _)] Y Y
 refine Stg.go [3] [4] Y Y (q_ Y zqz) (eo Y (EffX.mkS hT Y Y Y Y Y Y Y Y (by decide) H.self) ?_)
 rintro _ _ ⟨v_158, h319, rfl, rfl, H⟩
 apply Stg.next [(13, _), (18, _)] Y Y
 refine Stg.go [9] [11] Y Y (qq Y (zqb (cs := [_, _, _, _, _, _, _, _]) hT Y Y Y Y Y Y) Y zqz) (eo Y (zes (i := 0) (qv := [(_, [_, _, _, _, _, _, _, _]), (_, [_, _, _, _, _, _, _, _])]) hT Y Y Y Y Y Y Y Y Y Y) ?_)
 rintro _ _ rfl
 apply Stg.next [] Y Y
 refine Stg.fin [] Y Y zqz ?_
 exact pko (HK1 _ b_53 _ H.self) [4, 2] [0, 1] Y
 refine EAll.cons ?_ ?_
 replace H := H.self
 replace H := H.2.1
 refine EOp.e Y Y Y (EffX.mkS hT Y Y Y Y Y Y Y Y (by decide) H) ?_
 rintro _ _ ⟨v_159, h321, rfl, rfl, H⟩
 apply Stg.next [(13, _)] Y Y
 refine Stg.go [0, 1, 5] [2, 6, 10] Y Y (q_ Y (q_ Y (q_ Y zqz))) ?_
 refine EAll.cons ?_ ?_
 replace H := H.self
 replace H := H.1
 refine EOp.e Y Y Y (EffX.mkS hT Y Y Y Y Y Y Y Y (by decide) H) ?_
 rintro _ _ ⟨v_160, h323, rfl, rfl, H⟩
 apply Stg.next [(11, _)] Y Y
 refine Stg.go [5] [6, 10] Y Y (q_ Y zqz) ?_
 refine EAll.cons ?_ ?_
 refine EOp.e Y Y Y (EffX.mkS hT Y Y Y Y Y Y Y Y (by decide) H.self) ?_
 rintro _ _ ⟨v_161, h325, rfl, rfl, H⟩
 apply Stg.next [(15, _), (18, _)] Y Y
 refine Stg.go [9] [10] Y Y (qq Y (zqb (cs := [_, _, _, _, _, _, _, _]) hT Y Y Y Y Y Y) Y zqz) (eo Y (zea (cs := [_, _, _, _, _, _, _, _]) hT Y Y H) ?_)
 rintro _ _ ⟨b_54, _, rfl, rfl, he54, H⟩
 apply Stg.next [(4, _)] Y Y
 refine Stg.go [9] [11] Y Y (qq Y (zqb (cs := [_, _, _, _, _, _, _, _]) hT Y Y Y Y Y Y) Y zqz) (eo Y (zes (i := 0) (qv := [(_, [_, _, _, _, _, _, _, _]), (_, [_, _, _, _, _, _, _, _])]) hT Y Y Y Y Y Y Y Y Y Y) ?_)
 rintro _ _ rfl
 apply Stg.next [] Y Y
 refine Stg.fin [] Y Y zqz ?_
 exact pko (HK1 _ b_54 _ H.self) [4, 2] [0, 1] Y
 refine eo Y (zea (cs := [_, _, _, _, _, _, _, _]) hT Y Y H) ?_
 rintro _ _ ⟨b_55, _, rfl, rfl, he55, H⟩
 apply Stg.next [(4, _)] Y Y
 refine Stg.go [5] [6] Y Y (q_ Y zqz) (eo Y (EffX.mkS hT Y Y Y Y Y Y Y Y (by decide) H.self) ?_)
 rintro _ _ ⟨v_162, h327, rfl, rfl, H⟩
 apply Stg.next [(15, _), (18, _)] Y Y
 refine Stg.go [9] [11] Y Y (qq Y (zqb (cs := [_, _, _, _, _, _, _, _]) hT Y Y Y Y Y Y) Y zqz) (eo Y (zes (i := 0) (qv := [(_, [_, _, _, _, _, _, _, _]), (_, [_, _, _, _, _, _, _, _])]) hT Y Y Y Y Y Y Y Y Y Y) ?_)
 rintro _ _ rfl
 apply Stg.next [] Y Y
 refine Stg.fin [] Y Y zqz ?_
 exact pko (HK1 _ b_55 _ H.self) [4, 2] [0, 1] Y
 refine EAll.cons ?_ ?_
 replace H := H.self
 replace H := H.2
 refine EOp.e Y Y Y (EffX.mkS hT Y Y Y Y Y Y Y Y (by decide) H) ?_
 rintro _ _ ⟨v_163, h329, rfl, rfl, H⟩
 apply Stg.next [(15, _)] Y Y
 refine Stg.go [0, 1] [2, 10] Y Y (q_ Y (q_ Y zqz)) ?_
 refine EAll.cons ?_ ?_
 refine EOp.e Y Y Y (EffX.mkS hT Y Y Y Y Y Y Y Y (by decide) H.self) ?_
 rintro _ _ ⟨v_164, h331, rfl, rfl, H⟩
 apply Stg.next [(11, _), (18, _)] Y Y
 refine Stg.go [9] [10] Y Y (qq Y (zqb (cs := [_, _, _, _, _, _, _, _]) hT Y Y Y Y Y Y) Y zqz) (eo Y (zea (cs := [_, _, _, _, _, _, _, _]) hT Y Y H) ?_)
 rintro _ _ ⟨b_56, _, rfl, rfl, he56, H⟩
 apply Stg.next [(4, _)] Y Y
 refine Stg.go [9] [11] Y Y (qq Y (zqb (cs := [_, _, _, _, _, _, _, _]) hT Y Y Y Y Y Y) Y zqz) (eo Y (zes (i := 0) (qv := [(_, [_, _, _, _, _, _, _, _]), (_, [_, _, _, _, _, _, _, _])]) hT Y Y Y Y Y Y Y Y Y Y) ?_)
 rintro _ _ rfl
 apply Stg.next [] Y Y
 refine Stg.fin [] Y Y zqz ?_
 exact pko (HK1 _ b_56 _ H.self) [4, 2] [0, 1] Y
 refine eo Y (zea (cs := [_, _, _, _, _, _, _, _]) hT Y Y H) ?_
 rintro _ _ ⟨b_57, _, rfl, rfl, he57, H⟩
 apply Stg.next [(4, _)] Y Y
 refine Stg.go [0, 1] [2] Y Y (q_ Y (q_ Y zqz)) (eo Y (EffX.mkS hT Y Y Y Y Y Y Y Y (by decide) H.self) ?_)
 rintro _ _ ⟨v_165, h333, rfl, rfl, H⟩
 apply Stg.next [(11, _), (18, _)] Y Y
 refine Stg.go [9] [11] Y Y (qq Y (zqb (cs := [_, _, _, _, _, _, _, _]) hT Y Y Y Y Y Y) Y zqz) (eo Y (zes (i := 0) (qv := [(_, [_, _, _, _, _, _, _, _]), (_, [_, _, _, _, _, _, _, _])]) hT Y Y Y Y Y Y Y Y Y Y) ?_)
 rintro _ _ rfl
 apply Stg.next [] Y Y
 refine Stg.fin [] Y Y zqz ?_
 exact pko (HK1 _ b_57 _ H.self) [4, 2] [0, 1] Y
 refine eo Y (zea (cs := [_, _, _, _, _, _, _, _]) hT Y Y H) ?_
 rintro _ _ ⟨b_58, _, rfl, rfl, he58, H⟩
 apply Stg.next [(4, _)] Y Y
 refine Stg.go [0, 1, 5] [2, 6] Y Y (q_ Y (q_ Y (q_ Y zqz))) ?_
 refine EAll.cons ?_ ?_
 replace H := H.self
 replace H := H.1
 refine EOp.e Y Y Y (EffX.mkS hT Y Y Y Y Y Y Y Y (by decide) H) ?_
 rintro _ _ ⟨v_166, h335, rfl, rfl, H⟩
 apply Stg.next [(11, _)] Y Y
 refine Stg.go [5] [6] Y Y (q_ Y zqz) (eo Y (EffX.mkS hT Y Y Y Y Y Y Y Y (by decide) H.self) ?_)
 rintro _ _ ⟨v_167, h337, rfl, rfl, H⟩
 apply Stg.next [(15, _), (18, _)] Y Y
 refine Stg.go [9] [11] Y Y (qq Y (zqb (cs := [_, _, _, _, _, _, _, _]) hT Y Y Y Y Y Y) Y zqz) (eo Y (zes (i := 0) (qv := [(_, [_, _, _, _, _, _, _, _]), (_, [_, _, _, _, _, _, _, _])]) hT Y Y Y Y Y Y Y Y Y Y) ?_)
 rintro _ _ rfl
 apply Stg.next [] Y Y
 refine Stg.fin [] Y Y zqz ?_
 exact pko (HK1 _ b_58 _ H.self) [4, 2] [0, 1] Y
 refine EAll.cons ?_ EAll.nil
 replace H := H.self
 replace H := H.2
 refine EOp.e Y Y Y (EffX.mkS hT Y Y Y Y Y Y Y Y (by decide) H) ?_
 rintro _ _ ⟨v_168, h339, rfl, rfl, H⟩
 apply Stg.next [(15, _)] Y Y
 refine Stg.go [0, 1] [2] Y Y (q_ Y (q_ Y zqz)) (eo Y (EffX.mkS hT Y Y Y Y Y Y Y Y (by decide) H.self) ?_)
 rintro _ _ ⟨v_169, h341, rfl, rfl, H⟩
 apply Stg.next [(11, _), (18, _)] Y Y
 refine Stg.go [9] [11] Y Y (qq Y (zqb (cs := [_, _, _, _, _, _, _, _]) hT Y Y Y Y Y Y) Y zqz) (eo Y (zes (i := 0) (qv := [(_, [_, _, _, _, _, _, _, _]), (_, [_, _, _, _, _, _, _, _])]) hT Y Y Y Y Y Y Y Y Y Y) ?_)
 rintro _ _ rfl
 apply Stg.next [] Y Y
 refine Stg.fin [] Y Y zqz ?_
 exact pko (HK1 _ b_58 _ H.self) [4, 2] [0, 1] Y
 refine EAll.cons ?_ ?_
 replace H := H.self
 replace H := H.2.2
 refine EOp.e Y Y Y (EffX.mkS hT Y Y Y Y Y Y Y Y (by decide) H) ?_
 rintro _ _ ⟨v_170, h343, rfl, rfl, H⟩
 apply Stg.next [(15, _)] Y Y
 refine Stg.go [0, 1, 3] [2, 4, 10] Y Y (q_ Y (q_ Y (q_ Y zqz))) ?_
 refine EAll.cons ?_ ?_
 replace H := H.self
 replace H := H.1
 refine EOp.e Y Y Y (EffX.mkS hT Y Y Y Y Y Y Y Y (by decide) H) ?_
 rintro _ _ ⟨v_171, h345, rfl, rfl, H⟩
 apply Stg.next [(11, _)] Y Y
 refine Stg.go [3] [4, 10] Y Y (q_ Y zqz) ?_
 refine EAll.cons ?_ ?_
 refine EOp.e Y Y Y (EffX.mkS hT Y Y Y Y Y Y Y Y (by decide) H.self) ?_
 rintro _ _ ⟨v_172, h347, rfl, rfl, H⟩
 apply Stg.next [(13, _), (18, _)] Y Y
 refine Stg.go [9] [10] Y Y (qq Y (zqb (cs := [_, _, _, _, _, _, _, _]) hT Y Y Y Y Y Y) Y zqz) (eo Y (zea (cs := [_, _, _, _, _, _, _, _]) hT Y Y H) ?_)
 rintro _ _ ⟨b_59, _, rfl, rfl, he59, H⟩
 apply Stg.next [(4, _)] Y Y
 refine Stg.go [9] [11] Y Y (qq Y (zqb (cs := [_, _, _, _, _, _, _, _]) hT Y Y Y Y Y Y) Y zqz) (eo Y (zes (i := 0) (qv := [(_, [_, _, _, _, _, _, _, _]), (_, [_, _, _, _, _, _, _, _])]) hT Y Y Y Y Y Y Y Y Y Y) ?_)
 rintro _ _ rfl
 apply Stg.next [] Y Y
 refine Stg.fin [] Y Y zqz ?_
 exact pko (HK1 _ b_59 _ H.self) [4, 2] [0, 1] Y
 refine eo Y (zea (cs := [_, _, _, _, _, _, _, _]) hT Y Y H) ?_
 rintro _ _ ⟨b_60, _, rfl, rfl, he60, H⟩
 apply Stg.next [(4, _)] Y Y
 refine Stg.go [3] [4] Y Y (q_ Y zqz) (eo Y (EffX.mkS hT Y Y Y Y Y Y Y Y (by decide) H.self) ?_)
 rintro _ _ ⟨v_173, h349, rfl, rfl, H⟩
 apply Stg.next [(13, _), (18, _)] Y Y
 refine Stg.go [9] [11] Y Y (qq Y (zqb (cs := [_, _, _, _, _, _, _, _]) hT Y Y Y Y Y Y) Y zqz) (eo Y (zes (i := 0) (qv := [(_, [_, _, _, _, _, _, _, _]), (_, [_, _, _, _, _, _, _, _])]) hT Y Y Y Y Y Y Y Y Y Y) ?_)
 rintro _ _ rfl
 apply Stg.next [] Y Y
 refine Stg.fin [] Y Y zqz ?_
 exact pko (HK1 _ b_60 _ H.self) [4, 2] [0, 1] Y
 refine EAll.cons ?_ ?_
 replace H := H.self
 replace H := H.2
 refine EOp.e Y Y Y (EffX.mkS hT Y Y Y Y Y Y Y Y (by decide) H) ?_
 rintro _ _ ⟨v_174, h351, rfl, rfl, H⟩
 apply Stg.next [(13, _)] Y Y
 refine Stg.go [0, 1] [2, 10] Y Y (q_ Y (q_ Y zqz)) ?_
 refine EAll.cons ?_ ?_
 refine EOp.e Y Y Y (EffX.mkS hT Y Y Y Y Y Y Y Y (by decide) H.self) ?_
 rintro _ _ ⟨v_175, h353, rfl, rfl, H⟩
 apply Stg.next [(11, _), (18, _)] Y Y
 refine Stg.go [9] [10] Y Y (qq Y (zqb (cs := [_, _, _, _, _, _, _, _]) hT Y Y Y Y Y Y) Y zqz) (eo Y (zea (cs := [_, _, _, _, _, _, _, _]) hT Y Y H) ?_)
 rintro _ _ ⟨b_61, _, rfl, rfl, he61, H⟩
 apply Stg.next [(4, _)] Y Y
 refine Stg.go [9] [11] Y Y (qq Y (zqb (cs := [_, _, _, _, _, _, _, _]) hT Y Y Y Y Y Y) Y zqz) (eo Y (zes (i := 0) (qv := [(_, [_, _, _, _, _, _, _, _]), (_, [_, _, _, _, _, _, _, _])]) hT Y Y Y Y Y Y Y Y Y Y) ?_)
 rintro _ _ rfl
 apply Stg.next [] Y Y
 refine Stg.fin [] Y Y zqz ?_
 exact pko (HK1 _ b_61 _ H.self) [4, 2] [0, 1] Y
 refine eo Y (zea (cs := [_, _, _, _, _, _, _, _]) hT Y Y H) ?_
 rintro _ _ ⟨b_62, _, rfl, rfl, he62, H⟩
 apply Stg.next [(4, _)] Y Y
 refine Stg.go [0, 1] [2] Y Y (q_ Y (q_ Y zqz)) (eo Y (EffX.mkS hT Y Y Y Y Y Y Y Y (by decide) H.self) ?_)
 rintro _ _ ⟨v_176, h355, rfl, rfl, H⟩
 apply Stg.next [(11, _), (18, _)] Y Y
 refine Stg.go [9] [11] Y Y (qq Y (zqb (cs := [_, _, _, _, _, _, _, _]) hT Y Y Y Y Y Y) Y zqz) (eo Y (zes (i := 0) (qv := [(_, [_, _, _, _, _, _, _, _]), (_, [_, _, _, _, _, _, _, _])]) hT Y Y Y Y Y Y Y Y Y Y) ?_)
 rintro _ _ rfl
 apply Stg.next [] Y Y
 refine Stg.fin [] Y Y zqz ?_
 exact pko (HK1 _ b_62 _ H.self) [4, 2] [0, 1] Y
 refine eo Y (zea (cs := [_, _, _, _, _, _, _, _]) hT Y Y H) ?_
 rintro _ _ ⟨b_63, _, rfl, rfl, he63, H⟩
 apply Stg.next [(4, _)] Y Y
 refine Stg.go [0, 1, 3] [2, 4] Y Y (q_ Y (q_ Y (q_ Y zqz))) ?_
 refine EAll.cons ?_ ?_
 replace H := H.self
 replace H := H.1
 refine EOp.e Y Y Y (EffX.mkS hT Y Y Y Y Y Y Y Y (by decide) H) ?_
 rintro _ _ ⟨v_177, h357, rfl, rfl, H⟩
 apply Stg.next [(11, _)] Y Y
 refine Stg.go [3] [4] Y Y (q_ Y zqz) (eo Y (EffX.mkS hT Y Y Y Y Y Y Y Y (by decide) H.self) ?_)
 rintro _ _ ⟨v_178, h359, rfl, rfl, H⟩
 apply Stg.next [(13, _), (18, _)] Y Y
 refine Stg.go [9] [11] Y Y (qq Y (zqb (cs := [_, _, _, _, _, _, _, _]) hT Y Y Y Y Y Y) Y zqz) (eo Y (zes (i := 0) (qv := [(_, [_, _, _, _, _, _, _, _]), (_, [_, _, _, _, _, _, _, _])]) hT Y Y Y Y Y Y Y Y Y Y) ?_)
 rintro _ _ rfl
 apply Stg.next [] Y Y
 refine Stg.fin [] Y Y zqz ?_
 exact pko (HK1 _ b_63 _ H.self) [4, 2] [0, 1] Y
 refine EAll.cons ?_ EAll.nil
 replace H := H.self
 replace H := H.2
 refine EOp.e Y Y Y (EffX.mkS hT Y Y Y Y Y Y Y Y (by decide) H) ?_
 rintro _ _ ⟨v_179, h361, rfl, rfl, H⟩
 apply Stg.next [(13, _)] Y Y
 refine Stg.go [0, 1] [2] Y Y (q_ Y (q_ Y zqz)) (eo Y (EffX.mkS hT Y Y Y Y Y Y Y Y (by decide) H.self) ?_)
 rintro _ _ ⟨v_180, h363, rfl, rfl, H⟩
 apply Stg.next [(11, _), (18, _)] Y Y
 refine Stg.go [9] [11] Y Y (qq Y (zqb (cs := [_, _, _, _, _, _, _, _]) hT Y Y Y Y Y Y) Y zqz) (eo Y (zes (i := 0) (qv := [(_, [_, _, _, _, _, _, _, _]), (_, [_, _, _, _, _, _, _, _])]) hT Y Y Y Y Y Y Y Y Y Y) ?_)
 rintro _ _ rfl
 apply Stg.next [] Y Y
 refine Stg.fin [] Y Y zqz ?_
 exact pko (HK1 _ b_63 _ H.self) [4, 2] [0, 1] Y
 refine eo Y (zea (cs := [_, _, _, _, _, _, _, _]) hT Y Y H) ?_
 rintro _ _ ⟨b_64, _, rfl, rfl, he64, H⟩
 apply Stg.next [(4, _)] Y Y
 refine Stg.go [0, 1, 3, 5] [2, 4, 6] Y Y (q_ Y (q_ Y (q_ Y (q_ Y zqz)))) ?_
 refine EAll.cons ?_ ?_
 replace H := H.self
 replace H := H.1
 refine EOp.e Y Y Y (EffX.mkS hT Y Y Y Y Y Y Y Y (by decide) H) ?_
 rintro _ _ ⟨v_181, h365, rfl, rfl, H⟩
 apply Stg.next [(11, _)] Y Y
 refine Stg.go [3, 5] [4, 6] Y Y (q_ Y (q_ Y zqz)) ?_
 refine EAll.cons ?_ ?_
 replace H := H.self
 replace H := H.1
 refine EOp.e Y Y Y (EffX.mkS hT Y Y Y Y Y Y Y Y (by decide) H) ?_
 rintro _ _ ⟨v_182, h367, rfl, rfl, H⟩
 apply Stg.next [(13, _)] Y Y
 refine Stg.go [5] [6] Y Y (q_ Y zqz) (eo Y (EffX.mkS hT Y Y Y Y Y Y Y Y (by decide) H.self) ?_)
 rintro _ _ ⟨v_183, h369, rfl, rfl, H⟩
 apply Stg.next [(15, _), (18, _)] Y Y
 refine Stg.go [9] [11] Y Y (qq Y (zqb (cs := [_, _, _, _, _, _, _, _]) hT Y Y Y Y Y Y) Y zqz) (eo Y (zes (i := 0) (qv := [(_, [_, _, _, _, _, _, _, _]), (_, [_, _, _, _, _, _, _, _])]) hT Y Y Y Y Y Y Y Y Y Y) ?_)
 rintro _ _ rfl
 apply Stg.next [] Y Y
 refine Stg.fin [] Y Y zqz ?_
 exact pko (HK1 _ b_64 _ H.self) [4, 2] [0, 1] Y
 refine EAll.cons ?_ EAll.nil
 replace H := H.self
 replace H := H.2
 refine EOp.e Y Y Y (EffX.mkS hT Y Y Y Y Y Y Y Y (by decide) H) ?_
 rintro _ _ ⟨v_184, h371, rfl, rfl, H⟩
 apply Stg.next [(15, _)] Y Y
 refine Stg.go [3] [4] Y Y (q_ Y zqz) (eo Y (EffX.mkS hT Y Y Y Y Y Y Y Y (by decide) H.self) ?_)
 rintro _ _ ⟨v_185, h373, rfl, rfl, H⟩
 apply Stg.next [(13, _), (18, _)] Y Y
 refine Stg.go [9] [11] Y Y (qq Y (zqb (cs := [_, _, _, _, _, _, _, _]) hT Y Y Y Y Y Y) Y zqz) (eo Y (zes (i := 0) (qv := [(_, [_, _, _, _, _, _, _, _]), (_, [_, _, _, _, _, _, _, _])]) hT Y Y Y Y Y Y Y Y Y Y) ?_)
 rintro _ _ rfl
 apply Stg.next [] Y Y
 refine Stg.fin [] Y Y zqz ?_
 exact pko (HK1 _ b_64 _ H.self) [4, 2] [0, 1] Y
 refine EAll.cons ?_ ?_
 replace H := H.self
 replace H := H.2.1
 refine EOp.e Y Y Y (EffX.mkS hT Y Y Y Y Y Y Y Y (by decide) H) ?_
 rintro _ _ ⟨v_186, h375, rfl, rfl, H⟩
 apply Stg.next [(13, _)] Y Y
 refine Stg.go [0, 1, 5] [2, 6] Y Y (q_ Y (q_ Y (q_ Y zqz))) ?_
 refine EAll.cons ?_ ?_
 replace H := H.self
 replace H := H.1
 refine EOp.e Y Y Y (EffX.mkS hT Y Y Y Y Y Y Y Y (by decide) H) ?_
 rintro _ _ ⟨v_187, h377, rfl, rfl, H⟩
 apply Stg.next [(11, _)] Y Y
 refine Stg.go [5] [6] Y Y (q_ Y zqz) (eo Y (EffX.mkS hT Y Y Y Y Y Y Y Y (by decide) H.self) ?_)
 rintro _ _ ⟨v_188, h379, rfl, rfl, H⟩
 apply Stg.next [(15, _), (18, _)] Y Y
 refine Stg.go [9] [11] Y Y (qq Y (zqb (cs := [_, _, _, _, _, _, _, _]) hT Y Y Y Y Y Y) Y zqz) (eo Y (zes (i := 0) (qv := [(_, [_, _, _, _, _, _, _, _]), (_, [_, _, _, _, _, _, _, _])]) hT Y Y Y Y Y Y Y Y Y Y) ?_)
 rintro _ _ rfl
 apply Stg.next [] Y Y
 refine Stg.fin [] Y Y zqz ?_
 exact pko (HK1 _ b_64 _ H.self) [4, 2] [0, 1] Y
 refine EAll.cons ?_ EAll.nil
 replace H := H.self
 replace H := H.2
 refine EOp.e Y Y Y (EffX.mkS hT Y Y Y Y Y Y Y Y (by decide) H) ?_
 rintro _ _ ⟨v_189, h381, rfl, rfl, H⟩
 apply Stg.next [(15, _)] Y Y
 refine Stg.go [0, 1] [2] Y Y (q_ Y (q_ Y zqz)) (eo Y (EffX.mkS hT Y Y Y Y Y Y Y Y (by decide) H.self) ?_)
 rintro _ _ ⟨v_190, h383, rfl, rfl, H⟩
 apply Stg.next [(11, _), (18, _)] Y Y
 refine Stg.go [9] [11] Y Y (qq Y (zqb (cs := [_, _, _, _, _, _, _, _]) hT Y Y Y Y Y Y) Y zqz) (eo Y (zes (i := 0) (qv := [(_, [_, _, _, _, _, _, _, _]), (_, [_, _, _, _, _, _, _, _])]) hT Y Y Y Y Y Y Y Y Y Y) ?_)
 rintro _ _ rfl
 apply Stg.next [] Y Y
 refine Stg.fin [] Y Y zqz ?_
 exact pko (HK1 _ b_64 _ H.self) [4, 2] [0, 1] Y
 refine EAll.cons ?_ EAll.nil
 replace H := H.self
 replace H := H.2.2
 refine EOp.e Y Y Y (EffX.mkS hT Y Y Y Y Y Y Y Y (by decide) H) ?_
 rintro _ _ ⟨v_191, h385, rfl, rfl, H⟩
 apply Stg.next [(15, _)] Y Y
 refine Stg.go [0, 1, 3] [2, 4] Y Y (q_ Y (q_ Y (q_ Y zqz))) ?_
 refine EAll.cons ?_ ?_
 replace H := H.self
 replace H := H.1
 refine EOp.e Y Y Y (EffX.mkS hT Y Y Y Y Y Y Y Y (by decide) H) ?_
 rintro _ _ ⟨v_192, h387, rfl, rfl, H⟩
 apply Stg.next [(11, _)] Y Y
 refine Stg.go [3] [4] Y Y (q_ Y zqz) (eo Y (EffX.mkS hT Y Y Y Y Y Y Y Y (by decide) H.self) ?_)
 rintro _ _ ⟨v_193, h389, rfl, rfl, H⟩
 apply Stg.next [(13, _), (18, _)] Y Y
 refine Stg.go [9] [11] Y Y (qq Y (zqb (cs := [_, _, _, _, _, _, _, _]) hT Y Y Y Y Y Y) Y zqz) (eo Y (zes (i := 0) (qv := [(_, [_, _, _, _, _, _, _, _]), (_, [_, _, _, _, _, _, _, _])]) hT Y Y Y Y Y Y Y Y Y Y) ?_)
 rintro _ _ rfl
 apply Stg.next [] Y Y
 refine Stg.fin [] Y Y zqz ?_
 exact pko (HK1 _ b_64 _ H.self) [4, 2] [0, 1] Y
 refine EAll.cons ?_ EAll.nil
 replace H := H.self
 replace H := H.2
 refine EOp.e Y Y Y (EffX.mkS hT Y Y Y Y Y Y Y Y (by decide) H) ?_
 rintro _ _ ⟨v_194, h391, rfl, rfl, H⟩
 apply Stg.next [(13, _)] Y Y
 refine Stg.go [0, 1] [2] Y Y (q_ Y (q_ Y zqz)) (eo Y (EffX.mkS hT Y Y Y Y Y Y Y Y (by decide) H.self) ?_)
 rintro _ _ ⟨v_195, h393, rfl, rfl, H⟩
 apply Stg.next [(11, _), (18, _)] Y Y
 refine Stg.go [9] [11] Y Y (qq Y (zqb (cs := [_, _, _, _, _, _, _, _]) hT Y Y Y Y Y Y) Y zqz) (eo Y (zes (i := 0) (qv := [(_, [_, _, _, _, _, _, _, _]), (_, [_, _, _, _, _, _, _, _])]) hT Y Y Y Y Y Y Y Y Y Y) ?_)
 rintro _ _ rfl
 apply Stg.next [] Y Y
 refine Stg.fin [] Y Y zqz ?_
 exact pko (HK1 _ b_64 _ H.self) [4, 2] [0, 1] Y
 refine eo Y (zea (cs := [_, _, _, _, _, _, _, _]) hT Y Y H) ?_
 rintro _ _ ⟨b_65, _, rfl, rfl, he65, H⟩
 apply Stg.next [(4, _)] Y Y
 refine Stg.go [0, 1, 3, 5, 7] [2, 4, 6, 8] Y Y (q_ Y (q_ Y (q_ Y (q_ Y (q_ Y zqz))))) ?_
 refine EAll.cons ?_ ?_
 replace H := H.self
 replace H := H.1
 refine EOp.e Y Y Y (EffX.mkS hT Y Y Y Y Y Y Y Y (by decide) H) ?_
 rintro _ _ ⟨v_196, h395, rfl, rfl, H⟩
 apply Stg.next [(11, _)] Y Y
 refine Stg.go [3, 5, 7] [4, 6, 8] Y Y (q_ Y (q_ Y (q_ Y zqz))) ?_
 refine EAll.cons ?_ ?_
 replace H := H.self
 replace H := H.1
 refine EOp.e Y Y Y (EffX.mkS hT Y Y Y Y Y Y Y Y (by decide) H) ?_
 rintro _ _ ⟨v_197, h397, rfl, rfl, H⟩
 apply Stg.next [(13, _)] Y Y
 refine Stg.go [5, 7] [6, 8] Y Y (q_ Y (q_ Y zqz)) ?_
 refine EAll.cons ?_ ?_
 replace H := H.self
 replace H := H.1
 refine EOp.e Y Y Y (EffX.mkS hT Y Y Y Y Y Y Y Y (by decide) H) ?_
 rintro _ _ ⟨v_198, h399, rfl, rfl, H⟩
 apply Stg.next [(15, _)] Y Y
 refine Stg.go [7] [8] Y Y (q_ Y zqz) (eo Y (EffX.mkS hT Y Y Y Y Y Y Y Y (by decide) H.self) ?_)
 rintro _ _ ⟨v_199, h401, rfl, rfl, H⟩
 apply Stg.next [(17, _), (18, _)] Y Y
 refine Stg.go [9] [11] Y Y (qq Y (zqb (cs := [_, _, _, _, _, _, _, _]) hT Y Y Y Y Y Y) Y zqz) (eo Y (zes (i := 0) (qv := [(_, [_, _, _, _, _, _, _, _]), (_, [_, _, _, _, _, _, _, _])]) hT Y Y Y Y Y Y Y Y Y Y) ?_)
 rintro _ _ rfl
 apply Stg.next [] Y Y
 refine Stg.fin [] Y Y zqz ?_
 exact pko (HK1 _ b_65 _ H.self) [4, 2] [0, 1] Y
 refine EAll.cons ?_ EAll.nil
 replace H := H.self
 replace H := H.2
 refine EOp.e Y Y Y (EffX.mkS hT Y Y Y Y Y Y Y Y (by decide) H) ?_
 rintro _ _ ⟨v_200, h403, rfl, rfl, H⟩
 apply Stg.next [(17, _)] Y Y
 refine Stg.go [5] [6] Y Y (q_ Y zqz) (eo Y (EffX.mkS hT Y Y Y Y Y Y Y Y (by decide) H.self) ?_)
 rintro _ _ ⟨v_201, h405, rfl, rfl, H⟩
 apply Stg.next [(15, _), (18, _)] Y Y
 refine Stg.go [9] [11] Y Y (qq Y (zqb (cs := [_, _, _, _, _, _, _, _]) hT Y Y Y Y Y Y) Y zqz) (eo Y (zes (i := 0) (qv := [(_, [_, _, _, _, _, _, _, _]), (_, [_, _, _, _, _, _, _, _])]) hT Y Y Y Y Y Y Y Y Y Y) ?_)
 rintro _ _ rfl
 apply Stg.next [] Y Y
 refine Stg.fin [] Y Y zqz ?_
 exact pko (HK1 _ b_65 _ H.self) [4, 2] [0, 1] Y
 refine EAll.cons ?_ ?_
 replace H := H.self
 replace H := H.2.1
 refine EOp.e Y Y Y (EffX.mkS hT Y Y Y Y Y Y Y Y (by decide) H) ?_
 rintro _ _ ⟨v_202, h407, rfl, rfl, H⟩
 apply Stg.next [(15, _)] Y Y
 refine Stg.go [3, 7] [4, 8] Y Y (q_ Y (q_ Y zqz)) ?_
 refine EAll.cons ?_ ?_
 replace H := H.self
 replace H := H.1
 refine EOp.e Y Y Y (EffX.mkS hT Y Y Y Y Y Y Y Y (by decide) H) ?_
 rintro _ _ ⟨v_203, h409, rfl, rfl, H⟩
 apply Stg.next [(13, _)] Y Y
 refine Stg.go [7] [8] Y Y (q_ Y zqz) (eo Y (EffX.mkS hT Y Y Y Y Y Y Y Y (by decide) H.self) ?_)
 rintro _ _ ⟨v_204, h411, rfl, rfl, H⟩
 apply Stg.next [(17, _), (18, _)] Y Y
 refine Stg.go [9] [11] Y Y (qq Y (zqb (cs := [_, _, _, _, _, _, _, _]) hT Y Y Y Y Y Y) Y zqz) (eo Y (zes (i := 0) (qv := [(_, [_, _, _, _, _, _, _, _]), (_, [_, _, _, _, _, _, _, _])]) hT Y Y Y Y Y Y Y Y Y Y) ?_)
 rintro _ _ rfl
 apply Stg.next [] Y Y
 refine Stg.fin [] Y Y zqz ?_
 exact pko (HK1 _ b_65 _ H.self) [4, 2] [0, 1] Y
 refine EAll.cons ?_ EAll.nil
 replace H := H.self
 replace H := H.2
 refine EOp.e Y Y Y (EffX.mkS hT Y Y Y Y Y Y Y Y (by decide) H) ?_
 rintro _ _ ⟨v_205, h413, rfl, rfl, H⟩
 apply Stg.next [(17, _)] Y Y
 refine Stg.go [3] [4] Y Y (q_ Y zqz) (eo Y (EffX.mkS hT Y Y Y Y Y Y Y Y (by decide) H.self) ?_)
 rintro _ _ ⟨v_206, h415, rfl, rfl, H⟩
 apply Stg.next [(13, _), (18, _)] Y Y
 refine Stg.go [9] [11] Y Y (qq Y (zqb (cs := [_, _, _, _, _, _, _, _]) hT Y Y Y Y Y Y) Y zqz) (eo Y (zes (i := 0) (qv := [(_, [_, _, _, _, _, _, _, _]), (_, [_, _, _, _, _, _, _, _])]) hT Y Y Y Y Y Y Y Y Y Y) ?_)
 rintro _ _ rfl
 apply Stg.next [] Y Y
 refine Stg.fin [] Y Y zqz ?_
 exact pko (HK1 _ b_65 _ H.self) [4, 2] [0, 1] Y
 refine EAll.cons ?_ EAll.nil
 replace H := H.self
 replace H := H.2.2
 refine EOp.e Y Y Y (EffX.mkS hT Y Y Y Y Y Y Y Y (by decide) H) ?_
 rintro _ _ ⟨v_207, h417, rfl, rfl, H⟩
 apply Stg.next [(17, _)] Y Y
 refine Stg.go [3, 5] [4, 6] Y Y (q_ Y (q_ Y zqz)) ?_
 refine EAll.cons ?_ ?_
 replace H := H.self
 replace H := H.1
 refine EOp.e Y Y Y (EffX.mkS hT Y Y Y Y Y Y Y Y (by decide) H) ?_
 rintro _ _ ⟨v_208, h419, rfl, rfl, H⟩
 apply Stg.next [(13, _)] Y Y
 refine Stg.go [5] [6] Y Y (q_ Y zqz) (eo Y (EffX.mkS hT Y Y Y Y Y Y Y Y (by decide) H.self) ?_)
 rintro _ _ ⟨v_209, h421, rfl, rfl, H⟩
 apply Stg.next [(15, _), (18, _)] Y Y
 refine Stg.go [9] [11] Y Y (qq Y (zqb (cs := [_, _, _, _, _, _, _, _]) hT Y Y Y Y Y Y) Y zqz) (eo Y (zes (i := 0) (qv := [(_, [_, _, _, _, _, _, _, _]), (_, [_, _, _, _, _, _, _, _])]) hT Y Y Y Y Y Y Y Y Y Y) ?_)
 rintro _ _ rfl
 apply Stg.next [] Y Y
 refine Stg.fin [] Y Y zqz ?_
 exact pko (HK1 _ b_65 _ H.self) [4, 2] [0, 1] Y
 refine EAll.cons ?_ EAll.nil
 replace H := H.self
 replace H := H.2
 refine EOp.e Y Y Y (EffX.mkS hT Y Y Y Y Y Y Y Y (by decide) H) ?_
 rintro _ _ ⟨v_210, h423, rfl, rfl, H⟩
 apply Stg.next [(15, _)] Y Y
 refine Stg.go [3] [4] Y Y (q_ Y zqz) (eo Y (EffX.mkS hT Y Y Y Y Y Y Y Y (by decide) H.self) ?_)
 rintro _ _ ⟨v_211, h425, rfl, rfl, H⟩
 apply Stg.next [(13, _), (18, _)] Y Y
 refine Stg.go [9] [11] Y Y (qq Y (zqb (cs := [_, _, _, _, _, _, _, _]) hT Y Y Y Y Y Y) Y zqz) (eo Y (zes (i := 0) (qv := [(_, [_, _, _, _, _, _, _, _]), (_, [_, _, _, _, _, _, _, _])]) hT Y Y Y Y Y Y Y Y Y Y) ?_)
 rintro _ _ rfl
 apply Stg.next [] Y Y
 refine Stg.fin [] Y Y zqz ?_
 exact pko (HK1 _ b_65 _ H.self) [4, 2] [0, 1] Y
 refine EAll.cons ?_ ?_
 replace H := H.self
 replace H := H.2.1
 refine EOp.e Y Y Y (EffX.mkS hT Y Y Y Y Y Y Y Y (by decide) H) ?_
 rintro _ _ ⟨v_212, h427, rfl, rfl, H⟩
 apply Stg.next [(13, _)] Y Y
 refine Stg.go [0, 1, 5, 7] [2, 6, 8] Y Y (q_ Y (q_ Y (q_ Y (q_ Y zqz)))) ?_
 refine EAll.cons ?_ ?_
 replace H := H.self
 replace H := H.1
 refine EOp.e Y Y Y (EffX.mkS hT Y Y Y Y Y Y Y Y (by decide) H) ?_
 rintro _ _ ⟨v_213, h429, rfl, rfl, H⟩
 apply Stg.next [(11, _)] Y Y
 refine Stg.go [5, 7] [6, 8] Y Y (q_ Y (q_ Y zqz)) ?_
 refine EAll.cons ?_ ?_
 replace H := H.self
 replace H := H.1
 refine EOp.e Y Y Y (EffX.mkS hT Y Y Y Y Y Y Y Y (by decide) H) ?_
 rintro _ _ ⟨v_214, h431, rfl, rfl, H⟩
 apply Stg.next [(15, _)] Y Y
 refine Stg.go [7] [8] Y Y (q_ Y zqz) (eo Y (EffX.mkS hT Y Y Y Y Y Y Y Y (by decide) H.self) ?_)
 rintro _ _ ⟨v_215, h433, rfl, rfl, H⟩
 apply Stg.next [(17, _), (18, _)] Y Y
 refine Stg.go [9] [11] Y Y (qq Y (zqb (cs := [_, _, _, _, _, _, _, _]) hT Y Y Y Y Y Y) Y zqz) (eo Y (zes (i := 0) (qv := [(_, [_, _, _, _, _, _, _, _]), (_, [_, _, _, _, _, _, _, _])]) hT Y Y Y Y Y Y Y Y Y Y) ?_)
 rintro _ _ rfl
 apply Stg.next [] Y Y
 refine Stg.fin [] Y Y zqz ?_
 exact pko (HK1 _ b_65 _ H.self) [4, 2] [0, 1] Y
 refine EAll.cons ?_ EAll.nil
 replace H := H.self
 replace H := H.2
 refine EOp.e Y Y Y (EffX.mkS hT Y Y Y Y Y Y Y Y (by decide) H) ?_
 rintro _ _ ⟨v_216, h435, rfl, rfl, H⟩
 apply Stg.next [(17, _)] Y Y
 refine Stg.go [5] [6] Y Y (q_ Y zqz) (eo Y (EffX.mkS hT Y Y Y Y Y Y Y Y (by decide) H.self) ?_)
 rintro _ _ ⟨v_217, h437, rfl, rfl, H⟩
 apply Stg.next [(15, _), (18, _)] Y Y
 refine Stg.go [9] [11] Y Y (qq Y (zqb (cs := [_, _, _, _, _, _, _, _]) hT Y Y Y Y Y Y) Y zqz) (eo Y (zes (i := 0) (qv := [(_, [_, _, _, _, _, _, _, _]), (_, [_, _, _, _, _, _, _, _])]) hT Y Y Y Y Y Y Y Y Y Y) ?_)
 rintro _ _ rfl
 apply Stg.next [] Y Y
 refine Stg.fin [] Y Y zqz ?_
 exact pko (HK1 _ b_65 _ H.self) [4, 2] [0, 1] Y
 refine EAll.cons ?_ ?_
 replace H := H.self
 replace H := H.2.1
 refine EOp.e Y Y Y (EffX.mkS hT Y Y Y Y Y Y Y Y (by decide) H) ?_
 rintro _ _ ⟨v_218, h439, rfl, rfl, H⟩
 apply Stg.next [(15, _)] Y Y
 refine Stg.go [0, 1, 7] [2, 8] Y Y (q_ Y (q_ Y (q_ Y zqz))) ?_
 refine EAll.cons ?_ ?_
 replace H := H.self
 replace H := H.1
 refine EOp.e Y Y Y (EffX.mkS hT Y Y Y Y Y Y Y Y (by decide) H) ?_
 rintro _ _ ⟨v_219, h441, rfl, rfl, H⟩
 apply Stg.next [(11, _)] Y Y
 refine Stg.go [7] [8] Y Y (q_ Y zqz) (eo Y (EffX.mkS hT Y Y Y Y Y Y Y Y (by decide) H.self) ?_)
 rintro _ _ ⟨v_220, h443, rfl, rfl, H⟩
 apply Stg.next [(17, _), (18, _)] Y Y
 refine Stg.go [9] [11] Y Y (qq Y (zqb (cs := [_, _, _, _, _, _, _, _]) hT Y Y Y Y Y Y) Y zqz) (eo Y (zes (i := 0) (qv := [(_, [_, _, _, _, _, _, _, _]), (_, [_, _, _, _, _, _, _, _])]) hT Y Y Y Y Y Y Y Y Y Y) ?_)
 rintro _ _ rfl
 apply Stg.next [] Y Y
 refine Stg.fin [] Y Y zqz ?_
 exact pko (HK1 _ b_65 _ H.self) [4, 2] [0, 1] Y
 refine EAll.cons ?_ EAll.nil
 replace H := H.self
 replace H := H.2
 refine EOp.e Y Y Y (EffX.mkS hT Y Y Y Y Y Y Y Y (by decide) H) ?_
 rintro _ _ ⟨v_221, h445, rfl, rfl, H⟩
 apply Stg.next [(17, _)] Y Y
 refine Stg.go [0, 1] [2] Y Y (q_ Y (q_ Y zqz)) (eo Y (EffX.mkS hT Y Y Y Y Y Y Y Y (by decide) H.self) ?_)
 rintro _ _ ⟨v_222, h447, rfl, rfl, H⟩
 apply Stg.next [(11, _), (18, _)] Y Y
 refine Stg.go [9] [11] Y Y (qq Y (zqb (cs := [_, _, _, _, _, _, _, _]) hT Y Y Y Y Y Y) Y zqz) (eo Y (zes (i := 0) (qv := [(_, [_, _, _, _, _, _, _, _]), (_, [_, _, _, _, _, _, _, _])]) hT Y Y Y Y Y Y Y Y Y Y) ?_)
 rintro _ _ rfl
 apply Stg.next [] Y Y
 refine Stg.fin [] Y Y zqz ?_
 exact pko (HK1 _ b_65 _ H.self) [4, 2] [0, 1] Y
 refine EAll.cons ?_ EAll.nil
 replace H := H.self
 replace H := H.2.2
 refine EOp.e Y Y Y (EffX.mkS hT Y Y Y Y Y Y Y Y (by decide) H) ?_
 rintro _ _ ⟨v_223, h449, rfl, rfl, H⟩
 apply Stg.next [(17, _)] Y Y
 refine Stg.go [0, 1, 5] [2, 6] Y Y (q_ Y (q_ Y (q_ Y zqz))) ?_
 refine EAll.cons ?_ ?_
 replace H := H.self
 replace H := H.1
 refine EOp.e Y Y Y (EffX.mkS hT Y Y Y Y Y Y Y Y (by decide) H) ?_
 rintro _ _ ⟨v_224, h451, rfl, rfl, H⟩
 apply Stg.next [(11, _)] Y Y
 refine Stg.go [5] [6] Y Y (q_ Y zqz) (eo Y (EffX.mkS hT Y Y Y Y Y Y Y Y (by decide) H.self) ?_)
 rintro _ _ ⟨v_225, h453, rfl, rfl, H⟩
 apply Stg.next [(15, _), (18, _)] Y Y
 refine Stg.go [9] [11] Y Y (qq Y (zqb (cs := [_, _, _, _, _, _, _, _]) hT Y Y Y Y Y Y) Y zqz) (eo Y (zes (i := 0) (qv := [(_, [_, _, _, _, _, _, _, _]), (_, [_, _, _, _, _, _, _, _])]) hT Y Y Y Y Y Y Y Y Y Y) ?_)
 rintro _ _ rfl
 apply Stg.next [] Y Y
 refine Stg.fin [] Y Y zqz ?_
 exact pko (HK1 _ b_65 _ H.self) [4, 2] [0, 1] Y
 refine EAll.cons ?_ EAll.nil
 replace H := H.self
 replace H := H.2
 refine EOp.e Y Y Y (EffX.mkS hT Y Y Y Y Y Y Y Y (by decide) H) ?_
 rintro _ _ ⟨v_226, h455, rfl, rfl, H⟩
 apply Stg.next [(15, _)] Y Y
 refine Stg.go [0, 1] [2] Y Y (q_ Y (q_ Y zqz)) (eo Y (EffX.mkS hT Y Y Y Y Y Y Y Y (by decide) H.self) ?_)
 rintro _ _ ⟨v_227, h457, rfl, rfl, H⟩
 apply Stg.next [(11, _), (18, _)] Y Y
 refine Stg.go [9] [11] Y Y (qq Y (zqb (cs := [_, _, _, _, _, _, _, _]) hT Y Y Y Y Y Y) Y zqz) (eo Y (zes (i := 0) (qv := [(_, [_, _, _, _, _, _, _, _]), (_, [_, _, _, _, _, _, _, _])]) hT Y Y Y Y Y Y Y Y Y Y) ?_)
 rintro _ _ rfl
 apply Stg.next [] Y Y
 refine Stg.fin [] Y Y zqz ?_
 exact pko (HK1 _ b_65 _ H.self) [4, 2] [0, 1] Y
 refine EAll.cons ?_ ?_
 replace H := H.self
 replace H := H.2.2.1
 refine EOp.e Y Y Y (EffX.mkS hT Y Y Y Y Y Y Y Y (by decide) H) ?_
 rintro _ _ ⟨v_228, h459, rfl, rfl, H⟩
 apply Stg.next [(15, _)] Y Y
 refine Stg.go [0, 1, 3, 7] [2, 4, 8] Y Y (q_ Y (q_ Y (q_ Y (q_ Y zqz)))) ?_
 refine EAll.cons ?_ ?_
 replace H := H.self
 replace H := H.1
 refine EOp.e Y Y Y (EffX.mkS hT Y Y Y Y Y Y Y Y (by decide) H) ?_
 rintro _ _ ⟨v_229, h461, rfl, rfl, H⟩
 apply Stg.next [(11, _)] Y Y
 refine Stg.go [3, 7] [4, 8] Y Y (q_ Y (q_ Y zqz)) ?_
 refine EAll.cons ?_ ?_
 replace H := H.self
 replace H := H.1
 refine EOp.e Y Y Y (EffX.mkS hT Y Y Y Y Y Y Y Y (by decide) H) ?_
 rintro _ _ ⟨v_230, h463, rfl, rfl, H⟩
 apply Stg.next [(13, _)] Y Y
 refine Stg.go [7] [8] Y Y (q_ Y zqz) (eo Y (EffX.mkS hT Y Y Y Y Y Y Y Y (by decide) H.self) ?_)
 rintro _ _ ⟨v_231, h465, rfl, rfl, H⟩
 apply Stg.next [(17, _), (18, _)] Y Y
 refine Stg.go [9] [11] Y Y (qq Y (zqb (cs := [_, _, _, _, _, _, _, _]) hT Y Y Y Y Y Y) Y zqz) (eo Y (zes (i := 0) (qv := [(_, [_, _, _, _, _, _, _, _]), (_, [_, _, _, _, _, _, _, _])]) hT Y Y Y Y Y Y Y Y Y Y) ?_)
 rintro _ _ rfl
 apply Stg.next [] Y Y
 refine Stg.fin [] Y Y zqz ?_
 exact pko (HK1 _ b_65 _ H.self) [4, 2] [0, 1] Y
 refine EAll.cons ?_ EAll.nil
 replace H := H.self
 replace H := H.2
 refine EOp.e Y Y Y (EffX.mkS hT Y Y Y Y Y Y Y Y (by decide) H) ?_
 rintro _ _ ⟨v_232, h467, rfl, rfl, H⟩
 apply Stg.next [(17, _)] Y Y
 refine Stg.go [3] [4] Y Y (q_ Y zqz) (eo Y (EffX.mkS hT Y Y Y Y Y Y Y Y (by decide) H.self) ?_)
 rintro _ _ ⟨v_233, h469, rfl, rfl, H⟩
 apply Stg.next [(13, _), (18, _)] Y Y
 refine Stg.go [9] [11] Y Y (qq Y (zqb (cs := [_, _, _, _, _, _, _, _]) hT Y Y Y Y Y Y) Y zqz) (eo Y (zes (i := 0) (qv := [(_, [_, _, _, _, _, _, _, _]), (_, [_, _, _, _, _, _, _, _])]) hT Y Y Y Y Y Y Y Y Y Y) ?_)
 rintro _ _ rfl
 apply Stg.next [] Y Y
 refine Stg.fin [] Y Y zqz ?_
 exact pko (HK1 _ b_65 _ H.self) [4, 2] [0, 1] Y
 refine EAll.cons ?_ ?_
 replace H := H.self
 replace H := H.2.1
 refine EOp.e Y Y Y (EffX.mkS hT Y Y Y Y Y Y Y Y (by decide) H) ?_
 rintro _ _ ⟨v_234, h471, rfl, rfl, H⟩
 apply Stg.next [(13, _)] Y Y
 refine Stg.go [0, 1, 7] [2, 8] Y Y (q_ Y (q_ Y (q_ Y zqz))) ?_
 refine EAll.cons ?_ ?_
 replace H := H.self
 replace H := H.1
 refine EOp.e Y Y Y (EffX.mkS hT Y Y Y Y Y Y Y Y (by decide) H) ?_
 rintro _ _ ⟨v_235, h473, rfl, rfl, H⟩
 apply Stg.next [(11, _)] Y Y
 refine Stg.go [7] [8] Y Y (q_ Y zqz) (eo Y (EffX.mkS hT Y Y Y Y Y Y Y Y (by decide) H.self) ?_)
 rintro _ _ ⟨v_236, h475, rfl, rfl, H⟩
 apply Stg.next [(17, _), (18, _)] Y Y
 refine Stg.go [9] [11] Y Y (qq Y (zqb (cs := [_, _, _, _, _, _, _, _]) hT Y Y Y Y Y Y) Y zqz) (eo Y (zes (i := 0) (qv := [(_, [_, _, _, _, _, _, _, _]), (_, [_, _, _, _, _, _, _, _])]) hT Y Y Y Y Y Y Y Y Y Y) ?_)
 rintro _ _ rfl
 apply Stg.next [] Y Y
 refine Stg.fin [] Y Y zqz ?_
 exact pko (HK1 _ b_65 _ H.self) [4, 2] [0, 1] Y
 refine EAll.cons ?_ EAll.nil
 replace H := H.self
 replace H := H.2
 refine EOp.e Y Y Y (EffX.mkS hT Y Y Y Y Y Y Y Y (by decide) H) ?_
 rintro _ _ ⟨v_237, h477, rfl, rfl, H⟩
 apply Stg.next [(17, _)] Y Y
 refine Stg.go [0, 1] [2] Y Y (q_ Y (q_ Y zqz)) (eo Y (EffX.mkS hT Y Y Y Y Y Y Y Y (by decide) H.self) ?_)
 rintro _ _ ⟨v_238, h479, rfl, rfl, H⟩
 apply Stg.next [(11, _), (18, _)] Y Y
 refine Stg.go [9] [11] Y Y (qq Y (zqb (cs := [_, _, _, _, _, _, _, _]) hT Y Y Y Y Y Y) Y zqz) (eo Y (zes (i := 0) (qv := [(_, [_, _, _, _, _, _, _, _]), (_, [_, _, _, _, _, _, _, _])]) hT Y Y Y Y Y Y Y Y Y Y) ?_)
 rintro _ _ rfl
 apply Stg.next [] Y Y
 refine Stg.fin [] Y Y zqz ?_
 exact pko (HK1 _ b_65 _ H.self) [4, 2] [0, 1] Y
 refine EAll.cons ?_ EAll.nil
 replace H := H.self
 replace H := H.2.2
 refine EOp.e Y Y Y (EffX.mkS hT Y Y Y Y Y Y Y Y (by decide) H) ?_
 rintro _ _ ⟨v_239, h481, rfl, rfl, H⟩
 apply Stg.next [(17, _)] Y Y
 refine Stg.go [0, 1, 3] [2, 4] Y Y (q_ Y (q_ Y (q_ Y zqz))) ?_
 refine EAll.cons ?_ ?_
 replace H := H.self
 replace H := H.1
 refine EOp.e Y Y Y (EffX.mkS hT Y Y Y Y Y Y Y Y (by decide) H) ?_
 rintro _ _ ⟨v_240, h483, rfl, rfl, H⟩
 apply Stg.next [(11, _)] Y Y
 refine Stg.go [3] [4] Y Y (q_ Y zqz) (eo Y (EffX.mkS hT Y Y Y Y Y Y Y Y (by decide) H.self) ?_)
 rintro _ _ ⟨v_241, h485, rfl, rfl, H⟩
 apply Stg.next [(13, _), (18, _)] Y Y
 refine Stg.go [9] [11] Y Y (qq Y (zqb (cs := [_, _, _, _, _, _, _, _]) hT Y Y Y Y Y Y) Y zqz) (eo Y (zes (i := 0) (qv := [(_, [_, _, _, _, _, _, _, _]), (_, [_, _, _, _, _, _, _, _])]) hT Y Y Y Y Y Y Y Y Y Y) ?_)
 rintro _ _ rfl
 apply Stg.next [] Y Y
 refine Stg.fin [] Y Y zqz ?_
 exact pko (HK1 _ b_65 _ H.self) [4, 2] [0, 1] Y
 refine EAll.cons ?_ EAll.nil
 replace H := H.self
 replace H := H.2
 refine EOp.e Y Y Y (EffX.mkS hT Y Y Y Y Y Y Y Y (by decide) H) ?_
 rintro _ _ ⟨v_242, h487, rfl, rfl, H⟩
 apply Stg.next [(13, _)] Y Y
 refine Stg.go [0, 1] [2] Y Y (q_ Y (q_ Y zqz)) (eo Y (EffX.mkS hT Y Y Y Y Y Y Y Y (by decide) H.self) ?_)
 rintro _ _ ⟨v_243, h489, rfl, rfl, H⟩
 apply Stg.next [(11, _), (18, _)] Y Y
 refine Stg.go [9] [11] Y Y (qq Y (zqb (cs := [_, _, _, _, _, _, _, _]) hT Y Y Y Y Y Y) Y zqz) (eo Y (zes (i := 0) (qv := [(_, [_, _, _, _, _, _, _, _]), (_, [_, _, _, _, _, _, _, _])]) hT Y Y Y Y Y Y Y Y Y Y) ?_)
 rintro _ _ rfl
 apply Stg.next [] Y Y
 refine Stg.fin [] Y Y zqz ?_
 exact pko (HK1 _ b_65 _ H.self) [4, 2] [0, 1] Y
 refine EAll.cons ?_ EAll.nil
 replace H := H.self
 replace H := H.2.2.2
 refine EOp.e Y Y Y (EffX.mkS hT Y Y Y Y Y Y Y Y (by decide) H) ?_
 rintro _ _ ⟨v_244, h491, rfl, rfl, H⟩
 apply Stg.next [(17, _)] Y Y
 refine Stg.go [0, 1, 3, 5] [2, 4, 6] Y Y (q_ Y (q_ Y (q_ Y (q_ Y zqz)))) ?_
 refine EAll.cons ?_ ?_
 replace H := H.self
 replace H := H.1
 refine EOp.e Y Y Y (EffX.mkS hT Y Y Y Y Y Y Y Y (by decide) H) ?_
 rintro _ _ ⟨v_245, h493, rfl, rfl, H⟩
 apply Stg.next [(11, _)] Y Y
 refine Stg.go [3, 5] [4, 6] Y Y (q_ Y (q_ Y zqz)) ?_
 refine EAll.cons ?_ ?_
 replace H := H.self
 replace H := H.1
 refine EOp.e Y Y Y (EffX.mkS hT Y Y Y Y Y Y Y Y (by decide) H) ?_
 rintro _ _ ⟨v_246, h495, rfl, rfl, H⟩
 apply Stg.next [(13, _)] Y Y
 refine Stg.go [5] [6] Y Y (q_ Y zqz) (eo Y (EffX.mkS hT Y Y Y Y Y Y Y Y (by decide) H.self) ?_)
 rintro _ _ ⟨v_247, h497, rfl, rfl, H⟩
 apply Stg.next [(15, _), (18, _)] Y Y
 refine Stg.go [9] [11] Y Y (qq Y (zqb (cs := [_, _, _, _, _, _, _, _]) hT Y Y Y Y Y Y) Y zqz) (eo Y (zes (i := 0) (qv := [(_, [_, _, _, _, _, _, _, _]), (_, [_, _, _, _, _, _, _, _])]) hT Y Y Y Y Y Y Y Y Y Y) ?_)
 rintro _ _ rfl
 apply Stg.next [] Y Y
 refine Stg.fin [] Y Y zqz ?_
 exact pko (HK1 _ b_65 _ H.self) [4, 2] [0, 1] Y
 refine EAll.cons ?_ EAll.nil
 replace H := H.self
 replace H := H.2
 refine EOp.e Y Y Y (EffX.mkS hT Y Y Y Y Y Y Y Y (by decide) H) ?_
 rintro _ _ ⟨v_248, h499, rfl, rfl, H⟩
 apply Stg.next [(15, _)] Y Y
 refine Stg.go [3] [4] Y Y (q_ Y zqz) (eo Y (EffX.mkS hT Y Y Y Y Y Y Y Y (by decide) H.self) ?_)
 rintro _ _ ⟨v_249, h501, rfl, rfl, H⟩
 apply Stg.next [(13, _), (18, _)] Y Y
 refine Stg.go [9] [11] Y Y (qq Y (zqb (cs := [_, _, _, _, _, _, _, _]) hT Y Y Y Y Y Y) Y zqz) (eo Y (zes (i := 0) (qv := [(_, [_, _, _, _, _, _, _, _]), (_, [_, _, _, _, _, _, _, _])]) hT Y Y Y Y Y Y Y Y Y Y) ?_)
 rintro _ _ rfl
 apply Stg.next [] Y Y
 refine Stg.fin [] Y Y zqz ?_
 exact pko (HK1 _ b_65 _ H.self) [4, 2] [0, 1] Y
 refine EAll.cons ?_ ?_
 replace H := H.self
 replace H := H.2.1
 refine EOp.e Y Y Y (EffX.mkS hT Y Y Y Y Y Y Y Y (by decide) H) ?_
 rintro _ _ ⟨v_250, h503, rfl, rfl, H⟩
 apply Stg.next [(13, _)] Y Y
 refine Stg.go [0, 1, 5] [2, 6] Y Y (q_ Y (q_ Y (q_ Y zqz))) ?_
 refine EAll.cons ?_ ?_
 replace H := H.self
 replace H := H.1
 refine EOp.e Y Y Y (EffX.mkS hT Y Y Y Y Y Y Y Y (by decide) H) ?_
 rintro _ _ ⟨v_251, h505, rfl, rfl, H⟩
 apply Stg.next [(11, _)] Y Y
 refine Stg.go [5] [6] Y Y (q_ Y zqz) (eo Y (EffX.mkS hT Y Y Y Y Y Y Y Y (by decide) H.self) ?_)
 rintro _ _ ⟨v_252, h507, rfl, rfl, H⟩
 apply Stg.next [(15, _), (18, _)] Y Y
 refine Stg.go [9] [11] Y Y (qq Y (zqb (cs := [_, _, _, _, _, _, _, _]) hT Y Y Y Y Y Y) Y zqz) (eo Y (zes (i := 0) (qv := [(_, [_, _, _, _, _, _, _, _]), (_, [_, _, _, _, _, _, _, _])]) hT Y Y Y Y Y Y Y Y Y Y) ?_)
 rintro _ _ rfl
 apply Stg.next [] Y Y
 refine Stg.fin [] Y Y zqz ?_
 exact pko (HK1 _ b_65 _ H.self) [4, 2] [0, 1] Y
 refine EAll.cons ?_ EAll.nil
 replace H := H.self
 replace H := H.2
 refine EOp.e Y Y Y (EffX.mkS hT Y Y Y Y Y Y Y Y (by decide) H) ?_
 rintro _ _ ⟨v_253, h509, rfl, rfl, H⟩
 apply Stg.next [(15, _)] Y Y
 refine Stg.go [0, 1] [2] Y Y (q_ Y (q_ Y zqz)) (eo Y (EffX.mkS hT Y Y Y Y Y Y Y Y (by decide) H.self) ?_)
 rintro _ _ ⟨v_254, h511, rfl, rfl, H⟩
 apply Stg.next [(11, _), (18, _)] Y Y
 refine Stg.go [9] [11] Y Y (qq Y (zqb (cs := [_, _, _, _, _, _, _, _]) hT Y Y Y Y Y Y) Y zqz) (eo Y (zes (i := 0) (qv := [(_, [_, _, _, _, _, _, _, _]), (_, [_, _, _, _, _, _, _, _])]) hT Y Y Y Y Y Y Y Y Y Y) ?_)
 rintro _ _ rfl
 apply Stg.next [] Y Y
 refine Stg.fin [] Y Y zqz ?_
 exact pko (HK1 _ b_65 _ H.self) [4, 2] [0, 1] Y
 refine EAll.cons ?_ EAll.nil
 replace H := H.self
 replace H := H.2.2
 refine EOp.e Y Y Y (EffX.mkS hT Y Y Y Y Y Y Y Y (by decide) H) ?_
 rintro _ _ ⟨v_255, h513, rfl, rfl, H⟩
 apply Stg.next [(15, _)] Y Y
 refine Stg.go [0, 1, 3] [2, 4] Y Y (q_ Y (q_ Y (q_ Y zqz))) ?_
 refine EAll.cons ?_ ?_
 replace H := H.self
 replace H := H.1
 refine EOp.e Y Y Y (EffX.mkS hT Y Y Y Y Y Y Y Y (by decide) H) ?_
 rintro _ _ ⟨v_256, h515, rfl, rfl, H⟩
 apply Stg.next [(11, _)] Y Y
 refine Stg.go [3] [4] Y Y (q_ Y zqz) (eo Y (EffX.mkS hT Y Y Y Y Y Y Y Y (by decide) H.self) ?_)
 rintro _ _ ⟨v_257, h517, rfl, rfl, H⟩
 apply Stg.next [(13, _), (18, _)] Y Y
 refine Stg.go [9] [11] Y Y (qq Y (zqb (cs := [_, _, _, _, _, _, _, _]) hT Y Y Y Y Y Y) Y zqz) (eo Y (zes (i := 0) (qv := [(_, [_, _, _, _, _, _, _, _]), (_, [_, _, _, _, _, _, _, _])]) hT Y Y Y Y Y Y Y Y Y Y) ?_)
 rintro _ _ rfl
 apply Stg.next [] Y Y
 refine Stg.fin [] Y Y zqz ?_
 exact pko (HK1 _ b_65 _ H.self) [4, 2] [0, 1] Y
 refine EAll.cons ?_ EAll.nil
 replace H := H.self
 replace H := H.2
 refine EOp.e Y Y Y (EffX.mkS hT Y Y Y Y Y Y Y Y (by decide) H) ?_
 rintro _ _ ⟨v_258, h519, rfl, rfl, H⟩
 apply Stg.next [(13, _)] Y Y
 refine Stg.go [0, 1] [2] Y Y (q_ Y (q_ Y zqz)) (eo Y (EffX.mkS hT Y Y Y Y Y Y Y Y (by decide) H.self) ?_)
 rintro _ _ ⟨v_259, h521, rfl, rfl, H⟩
 apply Stg.next [(11, _), (18, _)] Y Y
 refine Stg.go [9] [11] Y Y (qq Y (zqb (cs := [_, _, _, _, _, _, _, _]) hT Y Y Y Y Y Y) Y zqz) (eo Y (zes (i := 0) (qv := [(_, [_, _, _, _, _, _, _, _]), (_, [_, _, _, _, _, _, _, _])]) hT Y Y Y Y Y Y Y Y Y Y) ?_)
 rintro _ _ rfl
 apply Stg.next [] Y Y
 refine Stg.fin [] Y Y zqz ?_
 exact pko (HK1 _ b_65 _ H.self) [4, 2] [0, 1] Y
theorem lift_clause_there (s0 : (Option Addr)) (lit : Int) : Lf Try.prog 35 [Value.pointer s0, Value.int .i64 lit] Value.bool (clause_there s0 lit) := by
 refine Lf.go Try.func35 Try.ntmps35 Y Y [0, 1] Y fun w m S H => ?_
 unfold clause_there at H
 refine sR (p_ 1 Y (ng ?_))
 refine AtC.joinSeq (β := Unit) (fun (t0 : Bool) (bb : Unit) => [(4, Value.bool t0)]) (fun (t0 : Bool) (bb : Unit) => []) [] [] H Y Y (fun t0 bb h0 H => ?_) (fun J1 H HK1 => ?_)
 refine zrt ?_
 exact r1 4 Y Y Y H
 refine zrg (p_ 3 Y ?_)
 refine AtL.splitB (t := 7) H Y (fun H => ?_) (fun H => ?_)
 refine p_ 5 Y (nk H Y Y Y fun _ H => p_ 3 Y (ld hT H Y Y Y Y fun _ H => p_ 6 Y ?_))
 refine AtL.splitB (t := 16) H Y (fun H => ?_) (fun H => ?_)
 refine p_ 5 Y (nk H Y Y Y fun _ H => p_ 3 Y (ld hT H Y Y Y Y fun _ H => p_ 8 Y (znl ?_)))
 exact pko (HK1 _ () _ H) [4] [] Y
 refine p_ 10 Y (znl ?_)
 exact pko (HK1 _ () _ H) [4] [] Y
 refine p_ 19 Y (znl ?_)
 exact pko (HK1 _ () _ H) [4] [] Y
theorem lift_clause_truth (lit : Int) : Lf Try.prog 56 [Value.int .i64 lit] (Value.int .i64) (clause_truth lit) := by
 refine Lf.go Try.func56 Try.ntmps56 Y Y [0] Y fun w m S H => ?_
 unfold clause_truth at H
 refine sR (p_ 1 Y (ng (sR (p_ 6 Y (ng (zrt ?_))))))
 exact r1 2 Y Y Y H
theorem lift_clause_fits (s0 : (Option Addr)) (lits : Sl) : Lf Try.prog 53 [Value.pointer s0, Sl.toV lits] Value.bool (clause_fits s0 lits) := by
 refine Lf.go Try.func53 Try.ntmps53 Y Y [0, 1] Y fun w m S H => ?_
 unfold clause_fits at H
 refine sR (p_ 1 Y (ng (sR (zle Y (EffX.newM Y H) ?_))))
 rintro _ _ ⟨v, h0, rfl, rfl, H⟩
 refine p_ 1 Y (ng (zcs (sR (p_ 3 Y (ng (zck ?_))))))
 refine AtC.loopM (fun (s0u1 : Int) => [(11, Value.int .i64 s0u1)]) (fun (s0u1 : Int) => []) [0, 1, 5, 9, 10] [11, 0, 1, 5, 9, 10] [] [] H Y Y Y (by decide) Y (fun Kp1 s0u1 h1 H Q1 HK1 => ?_)
 refine sR (p_ 1 Y (ng (zcs ?_)))
 refine zcb H Y (fun H => ?_) (fun H => ?_)
 refine zsk (tg (zcs (zck (sR (ix hT H Y Y Y Y Y Y fun _ H => ld hT H Y Y Y Y fun _ H => p_ 1 Y ?_)))))
 refine ng (zcs ?_)
 refine AtC.joinSeq (β := Unit) (fun (t0 : Bool) (bb : Unit) => [(24, Value.bool t0)]) (fun (t0 : Bool) (bb : Unit) => []) [0, 1, 5, 7, 9, 10, 11] [] H Y Y (fun t0 bb h2 H => ?_) (fun J4 H HK4 => ?_)
 refine zcb H Y (fun H => ?_) (fun H => ?_)
 refine sR (p_ 1 Y (ng (zrt (ztr (zbr (ztr (ztr ?_)))))))
 refine zbr (ztr ?_)
 exact r1 4 Y Y Y H
 refine zsk (tg (zrg (p_ 2 Y (lc (lift_clause_truth _) H Try.call56 Y fun v_5 h5 H => zle Y (EffX.setM hT Y Y Y Y Y Y H) ?_))))
 rintro _ _ ⟨h6, rfl, H⟩
 refine znl (zbn (tg (zrg (p_ 2 Y (znl ?_)))))
 exact pko (HK1 _ _ H) [11, 0, 1, 5, 9, 10] [] Y
 refine zrg (p_ 2 Y (lc (lift_clause_there _ _) H Try.call35 Y fun v_2 h3 H => p_ 2 Y ?_))
 refine AtL.splitB (t := 19) H Y (fun H => ?_) (fun H => ?_)
 refine p_ 5 Y (znl ?_)
 exact pko (HK4 _ () _ H) [24, 0, 1, 5, 7, 9, 10, 11] [] Y
 refine p_ 5 Y (lc (lift_clause_truth _) H Try.call56 Y fun v_3 h4 H => p_ 1 Y ?_)
 obtain ⟨fm4, v_4, hm4, hn4, H⟩ := H
 refine zlq Y (Quiet1.lookM1 (key := v_3) hT Y Y Y (by kernel_rfl) Y Y hm4 hn4) (p_ 1 Y (znl ?_))
 exact pko (HK4 _ () _ H) [24, 0, 1, 5, 7, 9, 10, 11] [] Y
 refine zxt (ztx (ztx (zbh (tg (sR (p_ 4 Y (ng ?_)))))))
 refine zrt ?_
 exact r1 4 Y Y Y H
theorem lift_slices_Clone_int_int (s0 : Sl) : Lf Try.prog 54 [Sl.toV s0] Sl.toV (slices_Clone_int_int s0) := by
 refine Lf.go Try.func54 Try.ntmps54 Y Y [0] Y fun w m S H => ?_
 unfold slices_Clone_int_int at H
 refine sR (p_ 1 Y (ng (zcs (sR (p_ 1 Y (zlq Y (Quiet1.eqNilS hT Y Y Y Y) (ng ?_)))))))
 refine zcb H Y (fun H => ?_) (fun H => ?_)
 refine sR (p_ 1 Y (ng (zrt (ztr ?_))))
 exact r1 2 Y Y Y H
 refine zsk (tg (sR ?_))
 refine AtLX.bs (hT := hT) (cs := []) H Y Y Y Y Y Y Y Y Y (fun a h0 H => ?_)
 refine p_ 1 Y (zle Y (EffX.appendS (s := _) (u := _) hT Y Y Y Y Y Y Y Y Y Y (by decide) H) ?_)
 rintro _ _ ⟨v_1, h1, rfl, rfl, H⟩
 refine p_ 1 Y (ng (zrt ?_))
 exact r1 2 Y Y Y H
theorem lift_clause_watch (lit : Int) : Lf Try.prog 37 [Value.int .i64 lit] (Value.int .i64) (clause_watch lit) := by
 refine Lf.go Try.func37 Try.ntmps37 Y Y [0] Y fun w m S H => ?_
 unfold clause_watch at H
 refine sR (p_ 1 Y (ng (zcs (sR (p_ 2 Y (ng ?_))))))
 refine zcb H Y (fun H => ?_) (fun H => ?_)
 refine sR (p_ 1 Y (lc (lift_clause_truth _) H Try.call56 Y fun v h0 H => p_ 2 Y (ng (zrt (ztr ?_)))))
 exact r1 2 Y Y Y H
 refine zsk (tg (sR (p_ 1 Y (lc (lift_clause_truth _) H Try.call56 Y fun v_1 h1 H => p_ 3 Y (ng (zrt ?_))))))
 exact r1 2 Y Y Y H
theorem lift_clause_link (s0 : (Option Addr)) (at0 : Int) : Lf Try.prog 31 [Value.pointer s0, Value.int .i64 at0] (fun _ => Value.tuple #[]) (clause_link s0 at0) := by
 refine Lf.go Try.func31 Try.ntmps31 Y Y [0, 1] Y fun w m S H => ?_
 unfold clause_link at H
 refine sR (p_ 1 Y (nk H Y Y Y fun _ H => p_ 1 Y (ld hT H Y Y Y Y fun _ H => p_ 1 Y (ix hT H Y Y Y Y Y Y fun _ H => p_ 1 Y ?_))))
 refine ld hT H Y Y Y Y fun _ H => ?_
 refine AtL.sl (hT := hT) H Y Y Y Y Y Y Y (fun h => by cases h <;> rfl) Y (fun v_2 H => ?_)
 refine p_ 2 Y (ng (zck ?_))
 refine AtC.loopM (fun (s0u1 : Int) => [(16, Value.int .i64 s0u1)]) (fun (s0u1 : Int) => []) [0, 1, 14, 15] [16, 0, 1, 14, 15] [] [] H Y Y Y (by decide) Y (fun Kp6 s0u1 h0 H Q6 HK6 => ?_)
 refine sR (p_ 1 Y (ng (zcs ?_)))
 refine zcb H Y (fun H => ?_) (fun H => ?_)
 refine zsk (tg ?_)
 refine AtC.joinSeq (β := Unit) (fun (t0 : Unit) (bb : Unit) => []) (fun (t0 : Unit) (bb : Unit) => []) [0, 1, 14, 15, 16] [] H Y Y (fun t0 bb h1 H => ?_) (fun J7 H HK7 => ?_)
 refine zrg (p_ 2 Y (znl ?_))
 exact pko (HK6 _ _ H) [16, 0, 1, 14, 15] [] Y
 refine zck (sR (ix hT H Y Y Y Y Y Y fun _ H => ld hT H Y Y Y Y fun _ H => p_ 1 Y (ng ?_)))
 obtain ⟨a_3, hc9, H⟩ := H
 obtain ⟨v_4, hc10, H⟩ := H
 obtain ⟨a_4, hc11, H⟩ := H
 obtain ⟨v_5, hc12, H⟩ := H
 apply AtC.stages [5, 11, 15, 16, 18] (rl [([], 11), ([5], 1), ([5, 11], 2), ([], 2), ([5, 11, 15], 1), ([5, 11, 15, 16], 2)]) [[], [0], [0, 1], [0, 1, 2], [], [4], [], [6], [6, 7], [6, 7, 8], [], [4, 5, 10], [4, 5, 6, 7, 8, 9, 10, 11], [4, 5, 6, 7, 8, 9, 10, 11, 12], [], [14], [4, 5, 6, 7, 8, 9, 10, 11, 12, 13, 14, 15], (ra 17), (ra 18)] hmix (by kernel_rfl) (nm 20 [_, _, _, _, _] ++ nm 26 [_, _, _, _, _] ++ [(34, _)]) Y 5 Y
 refine Stg.go [0, 1, 2, 3, 4, 6, 7, 8, 9, 10, 14] [5, 15] Y Y (q_ Y (qq Y (zqc Y Y hc9) Y (q_ Y (qq Y (zql hT Y Y Y hc10) Y (q_ Y (q_ Y (qq Y (zqc Y Y hc11) Y (q_ Y (qq Y (zql hT Y Y Y hc12) Y (q_ Y (q_ Y zqz))))))))))) ?_
 refine EAll.cons ?_ ?_
 replace H := H.1
 refine EOp.e Y Y Y (cl (fun h => clause_watch _ h _) H Y Try.call37 Y (fun w m hr hw => lift_clause_watch _ w m hr _ hw)) ?_
 rintro _ _ ⟨v_6, h2, rfl, rfl, H⟩
 obtain ⟨hc13, H⟩ := H
 obtain ⟨hc14, H⟩ := H
 apply Stg.next [(25, _)] Y Y
 refine Stg.go [0, 1, 2, 3, 6, 7, 8, 9, 10, 14] [11, 15] Y Y (q_ Y (qq Y (zqc Y Y hc9) Y (q_ Y (qq Y (zql hT Y Y Y hc13) Y (q_ Y (qq Y (zqc Y Y hc11) Y (q_ Y (qq Y (zql hT Y Y Y hc14) Y (q_ Y (q_ Y zqz)))))))))) ?_
 refine EAll.cons ?_ ?_
 replace H := H.1
 refine EOp.e Y Y Y (cl (fun h => clause_watch _ h _) H Y Try.call37 Y (fun w m hr hw => lift_clause_watch _ w m hr _ hw)) ?_
 rintro _ _ ⟨v_7, h3, rfl, rfl, H⟩
 obtain ⟨hc15, H⟩ := H
 obtain ⟨hc16, H⟩ := H
 obtain ⟨a_5_, hc17, hd17, H⟩ := H
 obtain ⟨v_8, hc18, H⟩ := H
 apply Stg.next (nm 31 [_, _, _]) Y Y
 refine Stg.go [0, 1, 2, 3, 6, 7, 8, 9, 12, 13, 14] [15] Y Y (q_ Y (qq Y (zqc Y Y hc9) Y (q_ Y (qq Y (zql hT Y Y Y hc15) Y (q_ Y (qq Y (zqc Y Y hc11) Y (q_ Y (qq Y (zql hT Y Y Y hc16) Y (qq Y (zqi hT Y Y Y Y Y hc17 hd17) Y (qq Y (zql hT Y Y Y hc18) Y (q_ Y zqz))))))))))) (eo Y (EffX.buildS2 (cs := [_]) hT Y Y Y Y Y Y Y Y H) ?_)
 rintro _ _ ⟨a_6, h4, rfl, rfl, H⟩
 obtain ⟨hc19, H⟩ := H
 obtain ⟨hc20, H⟩ := H
 obtain ⟨hc21, H⟩ := H
 apply Stg.next [(35, _)] Y Y
 refine Stg.go [0, 1, 2, 3, 6, 7, 8, 9, 12, 13] [16] Y Y (q_ Y (qq Y (zqc Y Y hc9) Y (q_ Y (qq Y (zql hT Y Y Y hc19) Y (q_ Y (qq Y (zqc Y Y hc11) Y (q_ Y (qq Y (zql hT Y Y Y hc20) Y (qq Y (zqi hT Y Y Y Y Y hc17 hd17) Y (qq Y (zql hT Y Y Y hc21) Y zqz)))))))))) (eo Y (EffX.appendS (s := _) (u := _) hT Y Y Y Y Y Y Y Y Y Y (by decide) H) ?_)
 rintro _ _ ⟨v_10, h5, rfl, rfl, H⟩
 obtain ⟨hc22, H⟩ := H
 obtain ⟨a_7_, hc23, hd23, H⟩ := H
 apply Stg.next [(36, _), (37, _)] Y Y
 refine Stg.go [0, 1, 2, 3, 17] [18] Y Y (q_ Y (qq Y (zqc Y Y hc9) Y (q_ Y (qq Y (zql hT Y Y Y hc22) Y (qq Y (zqi hT Y Y Y Y Y hc23 hd23) Y zqz))))) (eo Y (EffX.store hT Y Y Y Y Y H) ?_)
 rintro _ _ ⟨h6, rfl, H⟩
 apply Stg.next [] Y Y
 refine Stg.fin [] Y Y zqz (zbn ?_)
 exact pko (HK7 _ () _ H) [0, 1, 14, 15, 16] [] Y
 refine EAll.cons ?_ EAll.nil
 replace H := H.2
 refine EOp.e Y Y Y (EffX.buildS2 (cs := [_]) hT Y Y Y Y Y Y Y Y H) ?_
 rintro _ _ ⟨a_8, h7, rfl, rfl, H⟩
 obtain ⟨hc24, H⟩ := H
 obtain ⟨hc25, H⟩ := H
 apply Stg.next [(35, _)] Y Y
 refine Stg.go [0, 1, 2, 3, 6, 7, 8, 9, 10] [11] Y Y (q_ Y (qq Y (zqc Y Y hc9) Y (q_ Y (qq Y (zql hT Y Y Y hc24) Y (q_ Y (qq Y (zqc Y Y hc11) Y (q_ Y (qq Y (zql hT Y Y Y hc25) Y (q_ Y zqz))))))))) (ec (lift_clause_watch _) H Try.call37 Y fun v_12 h8 H => ?_)
 obtain ⟨hc26, H⟩ := H
 obtain ⟨hc27, H⟩ := H
 obtain ⟨a_9_, hc28, hd28, H⟩ := H
 obtain ⟨v_13, hc29, H⟩ := H
 apply Stg.next (nm 31 [_, _, _]) Y Y
 refine Stg.go [0, 1, 2, 3, 6, 7, 8, 9, 12, 13] [16] Y Y (q_ Y (qq Y (zqc Y Y hc9) Y (q_ Y (qq Y (zql hT Y Y Y hc26) Y (q_ Y (qq Y (zqc Y Y hc11) Y (q_ Y (qq Y (zql hT Y Y Y hc27) Y (qq Y (zqi hT Y Y Y Y Y hc28 hd28) Y (qq Y (zql hT Y Y Y hc29) Y zqz)))))))))) (eo Y (EffX.appendS (s := _) (u := _) hT Y Y Y Y Y Y Y Y Y Y (by decide) H) ?_)
 rintro _ _ ⟨v_14, h9, rfl, rfl, H⟩
 obtain ⟨hc30, H⟩ := H
 obtain ⟨a_10_, hc31, hd31, H⟩ := H
 apply Stg.next [(36, _), (37, _)] Y Y
 refine Stg.go [0, 1, 2, 3, 17] [18] Y Y (q_ Y (qq Y (zqc Y Y hc9) Y (q_ Y (qq Y (zql hT Y Y Y hc30) Y (qq Y (zqi hT Y Y Y Y Y hc31 hd31) Y zqz))))) (eo Y (EffX.store hT Y Y Y Y Y H) ?_)
 rintro _ _ ⟨h10, rfl, H⟩
 apply Stg.next [] Y Y
 refine Stg.fin [] Y Y zqz (zbn ?_)
 exact pko (HK7 _ () _ H) [0, 1, 14, 15, 16] [] Y
 refine EAll.cons ?_ EAll.nil
 replace H := H.2
 refine EOp.e Y Y Y (EffX.buildS2 (cs := [_]) hT Y Y Y Y Y Y Y Y H) ?_
 rintro _ _ ⟨a_11, h11, rfl, rfl, H⟩
 obtain ⟨hc32, H⟩ := H
 obtain ⟨hc33, H⟩ := H
 apply Stg.next [(35, _)] Y Y
 refine Stg.go [0, 1, 2, 3, 4, 6, 7, 8, 9, 10] [5] Y Y (q_ Y (qq Y (zqc Y Y hc9) Y (q_ Y (qq Y (zql hT Y Y Y hc32) Y (q_ Y (q_ Y (qq Y (zqc Y Y hc11) Y (q_ Y (qq Y (zql hT Y Y Y hc33) Y (q_ Y zqz)))))))))) (ec (lift_clause_watch _) H Try.call37 Y fun v_16 h12 H => ?_)
 obtain ⟨hc34, H⟩ := H
 obtain ⟨hc35, H⟩ := H
 apply Stg.next [(25, _)] Y Y
 refine Stg.go [0, 1, 2, 3, 6, 7, 8, 9, 10] [11] Y Y (q_ Y (qq Y (zqc Y Y hc9) Y (q_ Y (qq Y (zql hT Y Y Y hc34) Y (q_ Y (qq Y (zqc Y Y hc11) Y (q_ Y (qq Y (zql hT Y Y Y hc35) Y (q_ Y zqz))))))))) (ec (lift_clause_watch _) H Try.call37 Y fun v_17 h13 H => ?_)
 obtain ⟨hc36, H⟩ := H
 obtain ⟨hc37, H⟩ := H
 obtain ⟨a_12_, hc38, hd38, H⟩ := H
 obtain ⟨v_18, hc39, H⟩ := H
 apply Stg.next (nm 31 [_, _, _]) Y Y
 refine Stg.go [0, 1, 2, 3, 6, 7, 8, 9, 12, 13] [16] Y Y (q_ Y (qq Y (zqc Y Y hc9) Y (q_ Y (qq Y (zql hT Y Y Y hc36) Y (q_ Y (qq Y (zqc Y Y hc11) Y (q_ Y (qq Y (zql hT Y Y Y hc37) Y (qq Y (zqi hT Y Y Y Y Y hc38 hd38) Y (qq Y (zql hT Y Y Y hc39) Y zqz)))))))))) (eo Y (EffX.appendS (s := _) (u := _) hT Y Y Y Y Y Y Y Y Y Y (by decide) H) ?_)
 rintro _ _ ⟨v_19, h14, rfl, rfl, H⟩
 obtain ⟨hc40, H⟩ := H
 obtain ⟨a_13_, hc41, hd41, H⟩ := H
 apply Stg.next [(36, _), (37, _)] Y Y
 refine Stg.go [0, 1, 2, 3, 17] [18] Y Y (q_ Y (qq Y (zqc Y Y hc9) Y (q_ Y (qq Y (zql hT Y Y Y hc40) Y (qq Y (zqi hT Y Y Y Y Y hc41 hd41) Y zqz))))) (eo Y (EffX.store hT Y Y Y Y Y H) ?_)
 rintro _ _ ⟨h15, rfl, H⟩
 apply Stg.next [] Y Y
 refine Stg.fin [] Y Y zqz (zbn ?_)
 exact pko (HK7 _ () _ H) [0, 1, 14, 15, 16] [] Y
 refine zxt (ztx (ztx (zbh ?_)))
 exact AtE.endN Y Y H
theorem lift_clause_Add (s0 : (Option Addr)) (lits : Sl) (learned : Bool) : Lf Try.prog 22 [Value.pointer s0, Sl.toV lits, Value.bool learned] (fun r => Value.tuple #[(Value.int .i64) r.1, (Value.int .i64) r.2]) (clause_Add s0 lits learned) := by
 refine Lf.go Try.func22 Try.ntmps22 Y Y [0, 1, 2] Y fun w m S H => ?_
 unfold clause_Add at H
 refine sR (p_ 2 Y (ng (zcs (sR (p_ 2 Y (lc (lift_clause_fits _ _) H Try.call53 Y fun v h0 H => p_ 1 Y ?_))))))
 refine ng ?_
 refine zcb H Y (fun H => ?_) (fun H => ?_)
 refine sR (p_ 2 Y (ng (zrt (ztr ?_))))
 exact AtE.retN (rs := [.tmp 6, .tmp 7]) Y (ResAll.cons (ResAt.tmp Y) (ResAll.cons (ResAt.tmp Y) ResAll.nil)) Y H
 refine zsk (tg (sR (p_ 1 Y (nk H Y Y Y fun _ H => p_ 1 Y (ld hT H Y Y Y Y fun _ H => p_ 2 Y ?_)))))
 refine ng ?_
 obtain ⟨a_1, hc2, H⟩ := (H _ rfl)
 obtain ⟨v_2, hc3, H⟩ := H
 apply AtC.seqS [6, 9, 10, 13] (rl [([], 8), ([6], 2), ([6, 9], 1), ([6, 9, 10], 3)]) [[], [], [1], [1, 2], [1, 2, 3], [], [5], [], [5, 6, 7], [5, 6, 7, 8], [1, 2, 3, 4, 5, 6, 7, 8, 9], (ra 11), (ra 12), (ra 13)] hmix (by kernel_rfl) (nm 18 [_, _, _, _, _, _] ++ [(25, _)]) Y 4 Y
 refine Stg.go (ra 6 ++ [7]) [6] Y Y (q_ Y (q_ Y (qq Y (zqc Y Y hc2) Y (q_ Y (qq Y (zql hT Y Y Y hc3) Y (q_ Y (q_ Y zqz))))))) (ec (lift_slices_Clone_int_int _) H Try.call54 Y fun v_3 h1 H => ?_)
 obtain ⟨hc4, H⟩ := H
 apply Stg.next [(24, _), (26, _)] Y Y
 refine Stg.go [0, 1, 2, 3, 4, 7, 8] [9] Y Y (q_ Y (q_ Y (qq Y (zqc Y Y hc2) Y (q_ Y (qq Y (zql hT Y Y Y hc4) Y (q_ Y (qq Y (zqb (cs := [_, _, _]) hT Y Y Y Y Y Y) Y zqz))))))) (eo Y (EffX.buildS2 (cs := [_, _, _]) hT Y Y Y Y Y Y Y Y H) ?_)
 rintro _ _ ⟨a_2, h2, rfl, rfl, H⟩
 obtain ⟨hc5, H⟩ := H
 apply Stg.next [(27, _)] Y Y
 refine Stg.go (ra 5) [10] Y Y (q_ Y (q_ Y (qq Y (zqc Y Y hc2) Y (q_ Y (qq Y (zql hT Y Y Y hc5) Y zqz))))) (eo Y (EffX.appendS (s := _) (u := _) hT Y Y Y Y Y Y Y Y Y Y (by decide) H) ?_)
 rintro _ _ ⟨v_5, h3, rfl, rfl, H⟩
 obtain ⟨a_3, hc6, H⟩ := H
 apply Stg.next (nm 28 [_, _, _]) Y Y
 refine Stg.go [0, 11, 12] [13] Y Y (q_ Y (qq Y (zqc Y Y hc6) Y (q_ Y zqz))) (eo Y (EffX.store hT Y Y Y Y Y H) ?_)
 rintro _ _ ⟨h4, rfl, H⟩
 apply Stg.next [] Y Y
 refine Stg.fin [] Y Y zqz (tg (sR (p_ 2 Y (lc (lift_clause_link _ _) H Try.call31 Y fun v_6 h5 H => ng (sR (p_ 3 Y ?_))))))
 refine ng (zrt ?_)
 exact AtE.retN (rs := [.tmp 6, .tmp 7]) Y (ResAll.cons (ResAt.tmp Y) (ResAll.cons (ResAt.tmp Y) ResAll.nil)) Y H
theorem lift_clause_sign (lit : Int) : Lf Try.prog 57 [Value.int .i64 lit] (Value.int .i64) (clause_sign lit) := by
 refine Lf.go Try.func57 Try.ntmps57 Y Y [0] Y fun w m S H => ?_
 unfold clause_sign at H
 refine sR (p_ 1 Y (ng (sR (p_ 4 Y (ng (zrt ?_))))))
 exact r1 2 Y Y Y H
theorem lift_clause_Value (s0 : Sl × Sl × Sl × Sl × Sl × Sl × Sl × Int) (lit : Int) : Lf Try.prog 27 [Value.agg (C_sl_sl_sl_sl_sl_sl_sl_i64 s0).toArray, Value.int .i64 lit] (Value.int .i64) (clause_Value s0 lit) := by
 refine Lf.go Try.func27 Try.ntmps27 Y Y [0, 1] Y fun w m S H => ?_
 unfold clause_Value at H
 refine sR (zle Y (EffX.box (cs := [_, _, _, _, _, _, _, _]) Y Y Y H) ?_)
 rintro _ _ ⟨s0u1, h0, rfl, rfl, H⟩
 refine p_ 1 Y (ng (zcs (sR (p_ 1 Y (lc (lift_clause_there _ _) H Try.call35 Y fun v h1 H => p_ 1 Y (ng ?_))))))
 refine zcb H Y (fun H => ?_) (fun H => ?_)
 refine sR (p_ 1 Y (ng (zrt (ztr ?_))))
 exact r1 4 Y Y Y H
 refine zsk (tg ?_)
 obtain ⟨v_1, hc0, H⟩ := H
 apply AtC.seqS [3, 7] [[], [], [], [], [3], [3], [], [3], [3, 7], [3, 7]] [[], [0], [], [2], [0, 1, 2, 3], (ra 5), [], [2, 3, 6], (ra 8), (ra 9)] hmix (by kernel_rfl) [(8, _), (9, _), (10, _), (14, _)] Y 2 Y
 refine Stg.go [0, 1, 2, 6] [3] Y Y (q_ Y (qq Y (zql hT Y Y Y hc0) Y (q_ Y (q_ Y zqz)))) (ec (lift_clause_truth _) H Try.call56 Y fun v_2 h2 H => ?_)
 obtain ⟨hc1, H⟩ := H
 obtain ⟨a_, hc2, hd2, H⟩ := H
 obtain ⟨v_3, hc3, H⟩ := H
 apply Stg.next (nm 11 [_, _, _]) Y Y
 refine Stg.go [0, 1, 4, 5, 6] [7] Y Y (q_ Y (qq Y (zql hT Y Y Y hc1) Y (qq Y (zqi hT Y Y Y Y Y hc2 hd2) Y (qq Y (zql hT Y Y Y hc3) Y (q_ Y zqz))))) (ec (lift_clause_sign _) H Try.call57 Y fun v_4 h3 H => ?_)
 obtain ⟨hc4, H⟩ := H
 obtain ⟨hc5, H⟩ := H
 apply Stg.next [(15, _), (16, _), (4, _)] Y Y
 refine Stg.fin [0, 1, 4, 5, 8, 9] Y Y (q_ Y (qq Y (zql hT Y Y Y hc4) Y (qq Y (zqi hT Y Y Y Y Y hc2 hd2) Y (qq Y (zql hT Y Y Y hc5) Y (q_ Y (q_ Y zqz)))))) (tg (zrt ?_))
 exact r1 4 Y Y Y H
theorem lift_clause_put (s0 : (Option Addr)) (lit : Int) (reason : Int) : Lf Try.prog 36 [Value.pointer s0, Value.int .i64 lit, Value.int .i64 reason] (fun _ => Value.tuple #[]) (clause_put s0 lit reason) := by
 refine Lf.go Try.func36 Try.ntmps36 Y Y [0, 1, 2] Y fun w m S H => ?_
 unfold clause_put at H
 refine sR (p_ 1 Y (lc (lift_clause_truth _) H Try.call56 Y fun v h0 H => p_ 1 Y (ng ?_)))
 obtain ⟨a, hc0, H⟩ := H
 obtain ⟨v_1, hc1, H⟩ := H
 obtain ⟨a_1, hc2, H⟩ := H
 obtain ⟨v_2, hc3, H⟩ := H
 obtain ⟨a_2, hc4, H⟩ := H
 obtain ⟨v_3, hc5, H⟩ := H
 obtain ⟨a_3, hc6, H⟩ := H
 obtain ⟨v_4, hc7, H⟩ := H
 apply AtC.seqS [16, 24, 26, 28] (rl [([], 23), ([16], 2), ([16, 24], 2), ([16, 24, 26], 2)]) [[], [0], [0, 1], [0, 1, 2], [], [], [5], [5, 6], [5, 6, 7], [], [], [10], [10, 11], [10, 11, 12], [], [], [15], [], [17], [17, 18], [17, 18, 19], [17, 18, 19, 20], [], (ra 9 ++ [10, 11, 12, 13, 15, 16, 17, 18, 19, 20]), (ra 9 ++ [10, 11, 12, 13, 15, 16, 17, 18, 19, 20, 23]), (ra 14 ++ [15, 16, 17, 18, 19, 20, 21, 23, 24]), (ra 14 ++ [15, 16, 17, 18, 19, 20, 21, 23, 24, 25]), (ra 27), (ra 28)] hmix (by kernel_rfl) (nm 9 [_, _, _, _, _, _, _, _, _, _, _, _, _, _, _, _] ++ nm 26 [_, _, _, _, _, _]) Y 4 Y
 refine Stg.go (ra 16 ++ [17, 18, 19, 20, 21, 22]) [16] Y Y (q_ Y (qq Y (zqc Y Y hc0) Y (q_ Y (qq Y (zql hT Y Y Y hc1) Y (q_ Y (q_ Y (qq Y (zqc Y Y hc2) Y (q_ Y (qq Y (zql hT Y Y Y hc3) Y (q_ Y (q_ Y (qq Y (zqc Y Y hc4) Y (q_ Y (qq Y (zql hT Y Y Y hc5) Y (q_ Y (q_ Y (q_ Y (qq Y (zqc Y Y hc6) Y (q_ Y (qq Y (zql hT Y Y Y hc7) Y (q_ Y (q_ Y zqz)))))))))))))))))))))) (ec (lift_clause_sign _) H Try.call57 Y fun v_5 h1 H => ?_)
 obtain ⟨hc8, H⟩ := H
 obtain ⟨hc9, H⟩ := H
 obtain ⟨hc10, H⟩ := H
 obtain ⟨hc11, H⟩ := H
 obtain ⟨a_4_, hc12, hd12, H⟩ := H
 apply Stg.next [(25, _), (32, _)] Y Y
 refine Stg.go (ra 15 ++ [17, 18, 19, 20, 21, 22, 23]) [24] Y Y (q_ Y (qq Y (zqc Y Y hc0) Y (q_ Y (qq Y (zql hT Y Y Y hc8) Y (q_ Y (q_ Y (qq Y (zqc Y Y hc2) Y (q_ Y (qq Y (zql hT Y Y Y hc9) Y (q_ Y (q_ Y (qq Y (zqc Y Y hc4) Y (q_ Y (qq Y (zql hT Y Y Y hc10) Y (q_ Y (q_ Y (qq Y (zqc Y Y hc6) Y (q_ Y (qq Y (zql hT Y Y Y hc11) Y (q_ Y (q_ Y (qq Y (zqi hT Y Y Y Y Y hc12 hd12) Y zqz)))))))))))))))))))))) (eo Y (EffX.store hT Y Y Y Y Y H) ?_)
 rintro _ _ ⟨h2, rfl, H⟩
 obtain ⟨a_5_, hc13, hd13, H⟩ := H
 apply Stg.next [(33, _)] Y Y
 refine Stg.go [9, 14, 21, 22, 25] [26] Y Y (q_ Y (q_ Y (q_ Y (q_ Y (qq Y (zqi hT Y Y Y Y Y hc13 hd13) Y zqz))))) (eo Y (EffX.store hT Y Y Y Y Y H) ?_)
 rintro _ _ ⟨h3, rfl, H⟩
 obtain ⟨a_6_, hc14, hd14, H⟩ := H
 apply Stg.next [(34, _)] Y Y
 refine Stg.go [14, 22, 27] [28] Y Y (q_ Y (q_ Y (qq Y (zqi hT Y Y Y Y Y hc14 hd14) Y zqz))) (eo Y (EffX.store hT Y Y Y Y Y H) ?_)
 rintro _ _ ⟨h4, rfl, H⟩
 apply Stg.next [] Y Y
 refine Stg.fin [] Y Y zqz (tg (zrg (p_ 2 Y (nk H Y Y Y fun _ H => p_ 1 Y (ld hT H Y Y Y Y fun _ H => p_ 1 Y ?_)))))
 refine AtLX.bs (hT := hT) (cs := [_]) H Y Y Y Y Y Y Y Y Y (fun a_8 h5 H => ?_)
 refine zle Y (EffX.appendS (s := _) (u := _) hT Y Y Y Y Y Y Y Y Y Y (by decide) H) ?_
 rintro _ _ ⟨v_8, h6, rfl, rfl, H⟩
 refine nk H Y Y Y fun _ H => p_ 1 Y (zle Y (EffX.store hT Y Y Y Y Y H) ?_)
 rintro _ _ ⟨h7, rfl, H⟩
 refine znl ?_
 exact AtE.endN Y Y H
end Go.Proofs.Ytkjcocjkcjmafaa

/-
  Laws that the proof of this claim's statement leans on, each proved under the conditions that it states.
-/
import Derived.Test.YtmcfhickfcmkkaaGreatDoorProg
import Derived.Test.YtmcfhickfcmkkaaGreatDoorSh
import Derived.Test.YtmcfhickfcmkkaaGreatDoorVE
import Derived.Test.YtmcfhickfcmkkaaGreatDoorFwC
import Derived.Test.YtmcfhickfcmkkaaGreatDoorFwZ
set_option linter.unusedVariables false
set_option linter.unusedSimpArgs false
namespace Go.Proofs.YtmcfhickfcmkkaaGreatDoor
open Go Go.Lift Go.Sh
set_option maxRecDepth 100000
noncomputable section
def T : TTab := [(2, .int .i64, 1, 8, [Value.int .i64 0]), (3, .int .i64, 1, 8, [Value.int .i64 0]), (4, .bool, 1, 1, [Value.bool false]), (5, .int .u8, 1, 1, [Value.int .u8 0]), (9, .string, 1, 16, [Value.string (ByteArray.mk #[])]), (22, .slice 5, 1, 24, [Sl.toV Sl.nil]), (23, .func #[] #[4] false, 1, 8, [Value.nilFunc]), (24, .slice 131, 1, 24, [Sl.toV Sl.nil]), (25, .slice 135, 1, 24, [Sl.toV Sl.nil]), (26, .slice 27, 1, 24, [Sl.toV Sl.nil]), (27, .slice 3, 1, 24, [Sl.toV Sl.nil]), (29, .struct #[⟨ "Bools", 3, 0, false, "", "", 0⟩, ⟨ "Reals", 3, 1, false, "", "", 8⟩, ⟨ "Rows", 24, 2, false, "", "", 16⟩, ⟨ "Atoms", 25, 3, false, "", "", 40⟩, ⟨ "Clauses", 26, 4, false, "", "", 64⟩, ⟨ "Lits", 27, 5, false, "", "", 88⟩, ⟨ "Polys", 24, 6, false, "", "", 112⟩], 7, 136, [Value.int .i64 0, Value.int .i64 0, Sl.toV Sl.nil, Sl.toV Sl.nil, Sl.toV Sl.nil, Sl.toV Sl.nil, Sl.toV Sl.nil]), (31, .struct #[⟨ "Limbs", 3, 0, false, "", "", 0⟩, ⟨ "Clauses", 3, 1, false, "", "", 8⟩], 2, 16, [Value.int .i64 0, Value.int .i64 0]), (32, .slice 64, 1, 24, [Sl.toV Sl.nil]), (34, .struct #[⟨ "Clauses", 32, 0, false, "", "", 0⟩, ⟨ "Watch", 26, 1, false, "", "", 24⟩, ⟨ "Value", 27, 2, false, "", "", 48⟩, ⟨ "Level", 27, 3, false, "", "", 72⟩, ⟨ "Reason", 27, 4, false, "", "", 96⟩, ⟨ "Trail", 27, 5, false, "", "", 120⟩, ⟨ "Heads", 27, 6, false, "", "", 144⟩, ⟨ "Next", 3, 7, false, "", "", 168⟩], 8, 176, [Sl.toV Sl.nil, Sl.toV Sl.nil, Sl.toV Sl.nil, Sl.toV Sl.nil, Sl.toV Sl.nil, Sl.toV Sl.nil, Sl.toV Sl.nil, Value.int .i64 0]), (36, .struct #[⟨ "Score", 27, 0, false, "", "", 0⟩, ⟨ "Heap", 27, 1, false, "", "", 24⟩], 2, 48, [Sl.toV Sl.nil, Sl.toV Sl.nil]), (37, .slice 77, 1, 24, [Sl.toV Sl.nil]), (38, .slice 80, 1, 24, [Sl.toV Sl.nil]), (40, .struct #[⟨ "Basic", 27, 0, false, "", "", 0⟩, ⟨ "Rows", 24, 1, false, "", "", 24⟩, ⟨ "Values", 37, 2, false, "", "", 48⟩, ⟨ "Lower", 38, 3, false, "", "", 72⟩, ⟨ "Upper", 38, 4, false, "", "", 96⟩], 5, 120, [Sl.toV Sl.nil, Sl.toV Sl.nil, Sl.toV Sl.nil, Sl.toV Sl.nil, Sl.toV Sl.nil]), (41, .slice 82, 1, 24, [Sl.toV Sl.nil]), (42, .slice 4, 1, 24, [Sl.toV Sl.nil]), (44, .struct #[⟨ "Problem", 29, 0, false, "", "", 0⟩, ⟨ "Limits", 31, 7, false, "", "", 136⟩, ⟨ "Search", 34, 9, false, "", "", 152⟩, ⟨ "Queue", 36, 17, false, "", "", 328⟩, ⟨ "Table", 40, 19, false, "", "", 376⟩, ⟨ "Undo", 41, 24, false, "", "", 496⟩, ⟨ "Asked", 3, 25, false, "", "", 520⟩, ⟨ "Phase", 42, 26, false, "", "", 528⟩, ⟨ "Steps", 3, 27, false, "", "", 552⟩, ⟨ "Clashes", 3, 28, false, "", "", 560⟩, ⟨ "Since", 3, 29, false, "", "", 568⟩, ⟨ "Round", 3, 30, false, "", "", 576⟩, ⟨ "Keep", 3, 31, false, "", "", 584⟩, ⟨ "Verdict", 3, 32, false, "", "", 592⟩], 33, 600, [Value.int .i64 0, Value.int .i64 0, Sl.toV Sl.nil, Sl.toV Sl.nil, Sl.toV Sl.nil, Sl.toV Sl.nil, Sl.toV Sl.nil, Value.int .i64 0, Value.int .i64 0, Sl.toV Sl.nil, Sl.toV Sl.nil, Sl.toV Sl.nil, Sl.toV Sl.nil, Sl.toV Sl.nil, Sl.toV Sl.nil, Sl.toV Sl.nil, Value.int .i64 0, Sl.toV Sl.nil, Sl.toV Sl.nil, Sl.toV Sl.nil, Sl.toV Sl.nil, Sl.toV Sl.nil, Sl.toV Sl.nil, Sl.toV Sl.nil, Sl.toV Sl.nil, Value.int .i64 0, Sl.toV Sl.nil, Value.int .i64 0, Value.int .i64 0, Value.int .i64 0, Value.int .i64 0, Value.int .i64 0, Value.int .i64 0]), (45, .int .i64, 1, 8, [Value.int .i64 0]), (53, .pointer 119, 1, 8, [Value.pointer none]), (56, .struct #[⟨ "In", 53, 0, true, "", "", 0⟩], 1, 8, [Value.pointer none]), (57, .func #[] #[3] false, 1, 8, [Value.nilFunc]), (64, .struct #[⟨ "Lits", 27, 0, false, "", "", 0⟩, ⟨ "Learned", 4, 1, false, "", "", 24⟩, ⟨ "Use", 3, 2, false, "", "", 32⟩], 3, 40, [Sl.toV Sl.nil, Value.bool false, Value.int .i64 0]), (70, .slice 245, 1, 24, [Sl.toV Sl.nil]), (71, .slice 245, 1, 24, [Sl.toV Sl.nil]), (73, .struct #[⟨ "Neg", 4, 0, false, "", "", 0⟩, ⟨ "Mag", 71, 1, false, "", "", 8⟩], 2, 32, [Value.bool false, Sl.toV Sl.nil]), (75, .struct #[⟨ "Num", 73, 0, false, "", "", 0⟩, ⟨ "Den", 71, 2, false, "", "", 32⟩], 3, 56, [Value.bool false, Sl.toV Sl.nil, Sl.toV Sl.nil]), (77, .struct #[⟨ "A", 75, 0, false, "", "", 0⟩, ⟨ "B", 75, 3, false, "", "", 56⟩], 6, 112, [Value.bool false, Sl.toV Sl.nil, Sl.toV Sl.nil, Value.bool false, Sl.toV Sl.nil, Sl.toV Sl.nil]), (80, .struct #[⟨ "Lit", 3, 0, false, "", "", 0⟩, ⟨ "At", 77, 1, false, "", "", 8⟩], 7, 120, [Value.int .i64 0, Value.bool false, Sl.toV Sl.nil, Sl.toV Sl.nil, Value.bool false, Sl.toV Sl.nil, Sl.toV Sl.nil]), (82, .struct #[⟨ "Var", 3, 0, false, "", "", 0⟩, ⟨ "Upper", 4, 1, false, "", "", 8⟩, ⟨ "Old", 80, 2, false, "", "", 16⟩, ⟨ "At", 3, 9, false, "", "", 136⟩], 10, 144, [Value.int .i64 0, Value.bool false, Value.int .i64 0, Value.bool false, Sl.toV Sl.nil, Sl.toV Sl.nil, Value.bool false, Sl.toV Sl.nil, Sl.toV Sl.nil, Value.int .i64 0]), (94, .pointer 34, 1, 8, [Value.pointer none]), (96, .pointer 100, 1, 8, [Value.pointer none]), (98, .struct #[⟨ "b", 22, 0, false, "", "steelyard/pack", 0⟩], 1, 24, [Sl.toV Sl.nil]), (100, .struct #[⟨ "Out", 98, 0, true, "", "", 0⟩], 1, 24, [Sl.toV Sl.nil]), (101, .func #[3] #[] false, 1, 8, [Value.nilFunc]), (104, .func #[27] #[] false, 1, 8, [Value.nilFunc]), (107, .pointer 98, 1, 8, [Value.pointer none]), (108, .func #[82] #[] false, 1, 8, [Value.nilFunc]), (110, .func #[4] #[] false, 1, 8, [Value.nilFunc]), (111, .pointer 3, 1, 8, [Value.pointer none]), (112, .array 6 111, 6, 48, [Value.pointer none, Value.pointer none, Value.pointer none, Value.pointer none, Value.pointer none, Value.pointer none]), (114, .pointer 44, 1, 8, [Value.pointer none]), (119, .struct #[⟨ "left", 22, 0, false, "", "steelyard/pack", 0⟩, ⟨ "wrong", 4, 1, false, "", "steelyard/pack", 24⟩], 2, 32, [Sl.toV Sl.nil, Value.bool false]), (120, .int .u64, 1, 8, [Value.int .u64 0]), (124, .func #[] #[27] false, 1, 8, [Value.nilFunc]), (127, .func #[] #[82] false, 1, 8, [Value.nilFunc]), (129, .slice 167, 1, 24, [Sl.toV Sl.nil]), (131, .struct #[⟨ "Const", 75, 0, false, "", "", 0⟩, ⟨ "Monos", 129, 3, false, "", "", 56⟩], 4, 80, [Value.bool false, Sl.toV Sl.nil, Sl.toV Sl.nil, Sl.toV Sl.nil]), (132, .func #[131] #[4] false, 1, 8, [Value.nilFunc]), (135, .struct #[⟨ "Bool", 3, 0, false, "", "", 0⟩, ⟨ "Var", 3, 1, false, "", "", 8⟩, ⟨ "Row", 3, 2, false, "", "", 16⟩, ⟨ "Bound", 77, 3, false, "", "", 24⟩], 9, 136, [Value.int .i64 0, Value.int .i64 0, Value.int .i64 0, Value.bool false, Sl.toV Sl.nil, Sl.toV Sl.nil, Value.bool false, Sl.toV Sl.nil, Sl.toV Sl.nil]), (136, .array 8 5, 8, 8, [Value.int .u8 0, Value.int .u8 0, Value.int .u8 0, Value.int .u8 0, Value.int .u8 0, Value.int .u8 0, Value.int .u8 0, Value.int .u8 0]), (139, .func #[3] #[4] false, 1, 8, [Value.nilFunc]), (142, .func #[27] #[4] false, 1, 8, [Value.nilFunc]), (144, .func #[135] #[4] false, 1, 8, [Value.nilFunc]), (149, .func #[64] #[4] false, 1, 8, [Value.nilFunc]), (151, .map 3 4, 1, 8, [Value.map none]), (153, .pointer 36, 1, 8, [Value.pointer none]), (155, .struct #[⟨ "Queue", 153, 0, true, "", "", 0⟩], 1, 8, [Value.pointer none]), (159, .func #[77] #[4] false, 1, 8, [Value.nilFunc]), (163, .func #[80] #[4] false, 1, 8, [Value.nilFunc]), (164, .pointer 234, 1, 8, [Value.pointer none]), (167, .struct #[⟨ "Var", 3, 0, false, "", "", 0⟩, ⟨ "Coef", 75, 1, false, "", "", 8⟩], 4, 64, [Value.int .i64 0, Value.bool false, Sl.toV Sl.nil, Sl.toV Sl.nil]), (168, .func #[167] #[4] false, 1, 8, [Value.nilFunc]), (184, .func #[135] #[] false, 1, 8, [Value.nilFunc]), (187, .func #[64] #[] false, 1, 8, [Value.nilFunc]), (188, .array 5 27, 5, 120, [Sl.toV Sl.nil, Sl.toV Sl.nil, Sl.toV Sl.nil, Sl.toV Sl.nil, Sl.toV Sl.nil]), (191, .func #[77] #[] false, 1, 8, [Value.nilFunc]), (193, .func #[80] #[] false, 1, 8, [Value.nilFunc]), (198, .func #[] #[135] false, 1, 8, [Value.nilFunc]), (201, .func #[] #[64] false, 1, 8, [Value.nilFunc]), (202, .pointer 27, 1, 8, [Value.pointer none]), (203, .array 5 202, 5, 40, [Value.pointer none, Value.pointer none, Value.pointer none, Value.pointer none, Value.pointer none]), (206, .func #[] #[77] false, 1, 8, [Value.nilFunc]), (208, .func #[] #[80] false, 1, 8, [Value.nilFunc]), (218, .map 219 3, 1, 8, [Value.map none]), (219, .array 2 3, 2, 16, [Value.int .i64 0, Value.int .i64 0]), (220, .map 3 3, 1, 8, [Value.map none]), (231, .slice 38, 1, 24, [Sl.toV Sl.nil]), (234, .struct #[⟨ "limbs", 3, 0, false, "", "steelyard/nat", 0⟩, ⟨ "over", 4, 1, false, "", "steelyard/nat", 8⟩], 2, 16, [Value.int .i64 0, Value.bool false]), (240, .func #[131] #[] false, 1, 8, [Value.nilFunc]), (243, .func #[] #[131] false, 1, 8, [Value.nilFunc]), (245, .int .u32, 1, 4, [Value.int .u32 0]), (254, .func #[164, 75, 75] #[75] false, 1, 8, [Value.nilFunc]), (256, .func #[167] #[] false, 1, 8, [Value.nilFunc]), (258, .func #[245] #[] false, 1, 8, [Value.nilFunc]), (260, .func #[] #[167] false, 1, 8, [Value.nilFunc]), (262, .func #[] #[245] false, 1, 8, [Value.nilFunc]), (275, .array 2 71, 2, 48, [Sl.toV Sl.nil, Sl.toV Sl.nil]), (276, .array 32 5, 32, 32, [Value.int .u8 0, Value.int .u8 0, Value.int .u8 0, Value.int .u8 0, Value.int .u8 0, Value.int .u8 0, Value.int .u8 0, Value.int .u8 0, Value.int .u8 0, Value.int .u8 0, Value.int .u8 0, Value.int .u8 0, Value.int .u8 0, Value.int .u8 0, Value.int .u8 0, Value.int .u8 0, Value.int .u8 0, Value.int .u8 0, Value.int .u8 0, Value.int .u8 0, Value.int .u8 0, Value.int .u8 0, Value.int .u8 0, Value.int .u8 0, Value.int .u8 0, Value.int .u8 0, Value.int .u8 0, Value.int .u8 0, Value.int .u8 0, Value.int .u8 0, Value.int .u8 0, Value.int .u8 0])]
theorem hT : TTab.Ok Tryz.prog T := TTab.ok_cons (by kernel_rfl) (by kernel_rfl) (TTab.ok_cons (by kernel_rfl) (by kernel_rfl) (TTab.ok_cons (by kernel_rfl) (by kernel_rfl) (TTab.ok_cons (by kernel_rfl) (by kernel_rfl) (TTab.ok_cons (by kernel_rfl) (by kernel_rfl) (TTab.ok_cons (by kernel_rfl) (by kernel_rfl) (TTab.ok_cons (by kernel_rfl) (by kernel_rfl) (TTab.ok_cons (by kernel_rfl) (by kernel_rfl) (TTab.ok_cons (by kernel_rfl) (by kernel_rfl) (TTab.ok_cons (by kernel_rfl) (by kernel_rfl) (TTab.ok_cons (by kernel_rfl) (by kernel_rfl) (TTab.ok_cons (by kernel_rfl) (by kernel_rfl) (TTab.ok_cons (by kernel_rfl) (by kernel_rfl) (TTab.ok_cons (by kernel_rfl) (by kernel_rfl) (TTab.ok_cons (by kernel_rfl) (by kernel_rfl) (TTab.ok_cons (by kernel_rfl) (by kernel_rfl) (TTab.ok_cons (by kernel_rfl) (by kernel_rfl) (TTab.ok_cons (by kernel_rfl) (by kernel_rfl) (TTab.ok_cons (by kernel_rfl) (by kernel_rfl) (TTab.ok_cons (by kernel_rfl) (by kernel_rfl) (TTab.ok_cons (by kernel_rfl) (by kernel_rfl) (TTab.ok_cons (by kernel_rfl) (by kernel_rfl) (TTab.ok_cons (by kernel_rfl) (by kernel_rfl) (TTab.ok_cons (by kernel_rfl) (by kernel_rfl) (TTab.ok_cons (by kernel_rfl) (by kernel_rfl) (TTab.ok_cons (by kernel_rfl) (by kernel_rfl) (TTab.ok_cons (by kernel_rfl) (by kernel_rfl) (TTab.ok_cons (by kernel_rfl) (by kernel_rfl) (TTab.ok_cons (by kernel_rfl) (by kernel_rfl) (TTab.ok_cons (by kernel_rfl) (by kernel_rfl) (TTab.ok_cons (by kernel_rfl) (by kernel_rfl) (TTab.ok_cons (by kernel_rfl) (by kernel_rfl) (TTab.ok_cons (by kernel_rfl) (by kernel_rfl) (TTab.ok_cons (by kernel_rfl) (by kernel_rfl) (TTab.ok_cons (by kernel_rfl) (by kernel_rfl) (TTab.ok_cons (by kernel_rfl) (by kernel_rfl) (TTab.ok_cons (by kernel_rfl) (by kernel_rfl) (TTab.ok_cons (by kernel_rfl) (by kernel_rfl) (TTab.ok_cons (by kernel_rfl) (by kernel_rfl) (TTab.ok_cons (by kernel_rfl) (by kernel_rfl) (TTab.ok_cons (by kernel_rfl) (by kernel_rfl) (TTab.ok_cons (by kernel_rfl) (by kernel_rfl) (TTab.ok_cons (by kernel_rfl) (by kernel_rfl) (TTab.ok_cons (by kernel_rfl) (by kernel_rfl) (TTab.ok_cons (by kernel_rfl) (by kernel_rfl) (TTab.ok_cons (by kernel_rfl) (by kernel_rfl) (TTab.ok_cons (by kernel_rfl) (by kernel_rfl) (TTab.ok_cons (by kernel_rfl) (by kernel_rfl) (TTab.ok_cons (by kernel_rfl) (by kernel_rfl) (TTab.ok_cons (by kernel_rfl) (by kernel_rfl) (TTab.ok_cons (by kernel_rfl) (by kernel_rfl) (TTab.ok_cons (by kernel_rfl) (by kernel_rfl) (TTab.ok_cons (by kernel_rfl) (by kernel_rfl) (TTab.ok_cons (by kernel_rfl) (by kernel_rfl) (TTab.ok_cons (by kernel_rfl) (by kernel_rfl) (TTab.ok_cons (by kernel_rfl) (by kernel_rfl) (TTab.ok_cons (by kernel_rfl) (by kernel_rfl) (TTab.ok_cons (by kernel_rfl) (by kernel_rfl) (TTab.ok_cons (by kernel_rfl) (by kernel_rfl) (TTab.ok_cons (by kernel_rfl) (by kernel_rfl) (TTab.ok_cons (by kernel_rfl) (by kernel_rfl) (TTab.ok_cons (by kernel_rfl) (by kernel_rfl) (TTab.ok_cons (by kernel_rfl) (by kernel_rfl) (TTab.ok_cons (by kernel_rfl) (by kernel_rfl) (TTab.ok_cons (by kernel_rfl) (by kernel_rfl) (TTab.ok_cons (by kernel_rfl) (by kernel_rfl) (TTab.ok_cons (by kernel_rfl) (by kernel_rfl) (TTab.ok_cons (by kernel_rfl) (by kernel_rfl) (TTab.ok_cons (by kernel_rfl) (by kernel_rfl) (TTab.ok_cons (by kernel_rfl) (by kernel_rfl) (TTab.ok_cons (by kernel_rfl) (by kernel_rfl) (TTab.ok_cons (by kernel_rfl) (by kernel_rfl) (TTab.ok_cons (by kernel_rfl) (by kernel_rfl) (TTab.ok_cons (by kernel_rfl) (by kernel_rfl) (TTab.ok_cons (by kernel_rfl) (by kernel_rfl) (TTab.ok_cons (by kernel_rfl) (by kernel_rfl) (TTab.ok_cons (by kernel_rfl) (by kernel_rfl) (TTab.ok_cons (by kernel_rfl) (by kernel_rfl) (TTab.ok_cons (by kernel_rfl) (by kernel_rfl) (TTab.ok_cons (by kernel_rfl) (by kernel_rfl) (TTab.ok_cons (by kernel_rfl) (by kernel_rfl) (TTab.ok_cons (by kernel_rfl) (by kernel_rfl) (TTab.ok_cons (by kernel_rfl) (by kernel_rfl) (TTab.ok_cons (by kernel_rfl) (by kernel_rfl) (TTab.ok_cons (by kernel_rfl) (by kernel_rfl) (TTab.ok_cons (by kernel_rfl) (by kernel_rfl) (TTab.ok_cons (by kernel_rfl) (by kernel_rfl) (TTab.ok_cons (by kernel_rfl) (by kernel_rfl) (TTab.ok_cons (by kernel_rfl) (by kernel_rfl) (TTab.ok_cons (by kernel_rfl) (by kernel_rfl) (TTab.ok_cons (by kernel_rfl) (by kernel_rfl) (TTab.ok_cons (by kernel_rfl) (by kernel_rfl) (TTab.ok_cons (by kernel_rfl) (by kernel_rfl) (TTab.ok_nil _)))))))))))))))))))))))))))))))))))))))))))))))))))))))))))))))))))))))))))))))))))))))))))))
theorem hmix : Tryz.prog.follows .mixedOrders = true := by kernel_rfl
abbrev zH : List Kd := .int .i64 :: .int .i64 :: .sl :: .sl :: .sl :: .sl :: .sl :: .int .i64 :: .int .i64 :: .sl :: .sl :: .sl :: .sl :: .sl :: .sl :: .sl :: .int .i64 :: .sl :: .sl :: .sl :: .sl :: .sl :: .sl :: .sl :: .sl :: .int .i64 :: .sl :: .int .i64 :: .int .i64 :: .int .i64 :: .int .i64 :: .int .i64 :: .int .i64 :: []
abbrev C := Ctx Tryz.prog
abbrev N := Ent Tryz.prog
abbrev M (c : C) (h : TTab.Ok Tryz.prog c.T) := @amJ _ c (stgD c) (aaN h hmix) h hmix
def t_0 : List N := []
def mJ : C := ⟨T, t_0, ⟨[], [], [], [], [], []⟩, 8⟩
def mK : N := M mJ hT 49 [.sh (false, [.sl])] [(false, [.sl])] eu Tryz.func49 rfl Tryz.ntmps49 Tryz.call49 (fun _ => by kernel_rfl) fun _ _ _ => by kernel_rfl
def iY : List N := mK :: t_0
def afd : C := ⟨T, iY, ⟨[], [], [], [], [], []⟩, 7⟩
def aet : N := M afd hT 11 [.sh (false, [.sl])] [(false, [.ptr])] xn Tryz.func11 rfl Tryz.ntmps11 Tryz.call11 (fun _ => by kernel_rfl) fun _ _ _ => by kernel_rfl
def yw : List N := aet :: iY
def zy : C := ⟨T, yw, ⟨[], [], [], [], [], []⟩, 5⟩
def aat : N := M zy hT 132 [.sh (false, [.ptr])] [] i4 Tryz.func132 rfl Tryz.ntmps132 Tryz.call132 (fun _ => by kernel_rfl) fun _ _ _ => by kernel_rfl
def qZ : List N := aat :: yw
def zo : C := ⟨T, qZ, ⟨[], [9, 13], [4], [(2, [(21, 4)], [])], [], []⟩, 41⟩
def aan : N := M zo hT 119 [.sh (false, [.ptr]), .sh (false, [.int .i64])] [(false, [.sl])] qd Tryz.func119 rfl Tryz.ntmps119 Tryz.call119 (fun _ => by kernel_rfl) fun _ _ _ => by kernel_rfl
def qX : List N := aan :: qZ
def wb : C := ⟨T, qX, ⟨[], [4, 9, 11], [6], [(3, [(4, 120), (11, 3)], [])], [], []⟩, 22⟩
def vE : N := M wb hT 50 [.sh (false, [.ptr]), .sh (false, [.int .i64])] [(false, [.int .u64])] ik Tryz.func50 rfl Tryz.ntmps50 Tryz.call50 (fun _ => by kernel_rfl) fun _ _ _ => by kernel_rfl
def og : List N := vE :: qX
def ack : C := ⟨T, og, ⟨[], [], [], [], [], []⟩, 6⟩
def abq : N := M ack hT 12 [.sh (false, [.ptr])] [(false, [.int .i64])] aR Tryz.func12 rfl Tryz.ntmps12 Tryz.call12 (fun _ => by kernel_rfl) fun _ _ _ => by kernel_rfl
def sC : List N := abq :: og
def zn : C := ⟨T, sC, ⟨[], [5, 10], [], [(3, [(21, 4)], [])], [], []⟩, 25⟩
def xE : N := M zn hT 131 [.sh (false, [.ptr]), .sh (false, [.int .i64])] [(false, [.int .i64])] bI Tryz.func131 rfl Tryz.ntmps131 Tryz.call131 (fun _ => by kernel_rfl) fun _ _ _ => by kernel_rfl
def pJ : List N := xE :: sC
def zw : C := ⟨T, pJ, ⟨[], [3], [], [(2, [], [])], [], []⟩, 12⟩
def z8 : N := M zw hT 58 [.sh (false, [.ptr])] [(false, [.bool])] gF Tryz.func58 rfl Tryz.ntmps58 Tryz.call58 (fun _ => by kernel_rfl) fun _ _ _ => by kernel_rfl
def qR : List N := z8 :: pJ
def zQ : C := ⟨T, qR, ⟨[], [], [], [], [], []⟩, 6⟩
def aar : N := M zQ hT 185 [.sh (false, [.ptr])] [(false, [.int .u32])] po Tryz.func185 rfl Tryz.ntmps185 Tryz.call185 (fun _ => by kernel_rfl) fun _ _ _ => by kernel_rfl
def qJ : List N := aar :: qR
def jk : C := ⟨T, qJ, ⟨[], [6, 10], [], [(3, [(6, 70), (10, 3)], [])], [], []⟩, 23⟩
def jm : N := M jk hT 184 [.sh (false, [.ptr]), .sh (false, [.int .i64]), .fn 185 [(false, [.ptr])] 0] [(false, [.sl])] b8 Tryz.func184 rfl Tryz.ntmps184 Tryz.call184 (fun _ => by kernel_rfl) fun _ _ _ => by kernel_rfl
def fj : List N := jm :: qJ
def agH : C := ⟨T, fj, ⟨[], [0, 6], [], [(2, [(0, 71)], []), (4, [(14, 4)], [])], [], []⟩, 21⟩
def agx : N := M agH hT 170 [.sh (false, [.sl])] [(false, [.sl])] bZ Tryz.func170 rfl Tryz.ntmps170 Tryz.call170 (fun _ => by kernel_rfl) fun _ _ _ => by kernel_rfl
def aaw : List N := agx :: fj
def ae1 : C := ⟨T, aaw, ⟨[], [], [], [], [], []⟩, 9⟩
def aeE : N := M ae1 hT 149 [.sh (false, [.sl])] [(false, [.bool])] qa Tryz.func149 rfl Tryz.ntmps149 Tryz.call149 (fun _ => by kernel_rfl) fun _ _ _ => by kernel_rfl
def wU : List N := aeE :: aaw
def aen : C := ⟨T, wU, ⟨[], [], [], [], [], []⟩, 2⟩
def aeB : N := M aen hT 172 [] [(false, [.sl])] tH Tryz.func172 rfl Tryz.ntmps172 Tryz.call172 (fun _ => by kernel_rfl) fun _ _ _ => by kernel_rfl
def zb : List N := aeB :: wU
def ko : C := ⟨T, zb, ⟨[], [5, 13], [], [(7, [(13, 3)], [])], [], []⟩, 26⟩
def j9 : N := M ko hT 171 [.sh (false, [.sl]), .sh (false, [.sl])] [(false, [.bool])] dT Tryz.func171 rfl Tryz.ntmps171 Tryz.call171 (fun _ => by kernel_rfl) fun _ _ _ => by kernel_rfl
def gk : List N := j9 :: zb
def abR : C := ⟨T, gk, ⟨[], [], [], [], [], []⟩, 6⟩
def ab7 : N := M abR hT 150 [.sh (false, [.sl])] [(false, [.bool])] jv Tryz.func150 rfl Tryz.ntmps150 Tryz.call150 (fun _ => by kernel_rfl) fun _ _ _ => by kernel_rfl
def rT : List N := ab7 :: gk
def aho : C := ⟨T, rT, ⟨[], [], [], [], [], []⟩, 7⟩
def ahR : N := M aho hT 92 [.sh (false, [.int .i64])] [(false, [.ptr])] acl Tryz.func92 rfl Tryz.ntmps92 Tryz.call92 (fun _ => by kernel_rfl) fun _ _ _ => by kernel_rfl
def ac7 : List N := ahR :: rT
def acB : C := ⟨T, ac7, ⟨[], [], [], [], [], []⟩, 2⟩
def ac3 : N := M acB hT 151 [] [(false, [.ptr])] i5 Tryz.func151 rfl Tryz.ntmps151 Tryz.call151 (fun _ => by kernel_rfl) fun _ _ _ => by kernel_rfl
def uJ : List N := ac3 :: ac7
def aft : C := ⟨T, uJ, ⟨[1], [1], [], [], [], []⟩, 10⟩
def aeL : N := M aft hT 153 [.sh (true, [.bool, .sl, .sl])] [(false, [.sl])] gE Tryz.func153 rfl Tryz.ntmps153 Tryz.call153 (fun _ => by kernel_rfl) fun _ _ _ => by kernel_rfl
def xG : List N := aeL :: uJ
def aeO : C := ⟨T, xG, ⟨[], [0, 2, 4], [3], [(4, [(2, 120), (4, 3)], [])], [], []⟩, 26⟩
def aeP : N := M aeO hT 191 [.sh (false, [.sl])] [(false, [.int .u64]), (false, [.bool])] kW Tryz.func191 rfl Tryz.ntmps191 Tryz.call191 (fun _ => by kernel_rfl) fun _ _ _ => by kernel_rfl
def yU : List N := aeP :: xG
def ajz : C := ⟨T, yU, ⟨[], [], [], [], [], []⟩, 10⟩
def ajo : N := M ajz hT 169 [.sh (false, [.int .u64])] [(false, [.sl])] r6 Tryz.func169 rfl Tryz.ntmps169 Tryz.call169 (fun _ => by kernel_rfl) fun _ _ _ => by kernel_rfl
def age : List N := ajo :: yU
def kY : C := ⟨T, age, ⟨[], [], [], [], [], []⟩, 14⟩
def lk : N := M kY hT 201 [.sh (false, [.int .u32])] [(false, [.int .i64])] cR Tryz.func201 rfl Tryz.ntmps201 Tryz.call201 (fun _ => by kernel_rfl) fun _ _ _ => by kernel_rfl
def gK : List N := lk :: age
def j7 : C := ⟨T, gK, ⟨[], [], [], [], [], []⟩, 8⟩
def kj : N := M j7 hT 190 [.sh (false, [.sl])] [(false, [.sl])] bU Tryz.func190 rfl Tryz.ntmps190 Tryz.call190 (fun _ => by kernel_rfl) fun _ _ _ => by kernel_rfl
def gm : List N := kj :: gK
def aed : C := ⟨T, gm, ⟨[], [4, 5, 6, 7, 35, 38, 39, 50, 51], [], [(3, [(4, 3)], []), (9, [], []), (14, [(35, 3)], []), (18, [], [])], [], []⟩, 68⟩
def ae0 : N := M aed hT 192 [.sh (false, [.sl])] [(false, [.sl]), (false, [.int .i64])] mQ Tryz.func192 rfl Tryz.ntmps192 Tryz.call192 (fun _ => by kernel_rfl) fun _ _ _ => by kernel_rfl
def yY : List N := ae0 :: gm
def ahc : C := ⟨T, yY, ⟨[], [], [], [], [], []⟩, 6⟩
def ag3 : N := M ahc hT 200 [.sh (false, [.int .i64])] [(false, [.int .i64])] sE Tryz.func200 rfl Tryz.ntmps200 Tryz.call200 (fun _ => by kernel_rfl) fun _ _ _ => by kernel_rfl
def aba : List N := ag3 :: yY
def ai3 : C := ⟨T, aba, ⟨[], [0, 1, 5], [], [(8, [(5, 3)], [])], [], []⟩, 49⟩
def ais : N := M ai3 hT 188 [.sh (false, [.sl]), .sh (false, [.sl])] [(false, [.int .i64])] ni Tryz.func188 rfl Tryz.ntmps188 Tryz.call188 (fun _ => by kernel_rfl) fun _ _ _ => by kernel_rfl
def adR : List N := ais :: aba
def aeF : C := ⟨T, adR, ⟨[], [4, 6, 8, 9, 11], [5, 7], [(4, [(4, 71), (5, 120), (11, 3)], []), (11, [(8, 120)], [])], [], []⟩, 41⟩
def aeb : N := M aeF hT 193 [.sh (false, [.sl]), .sh (false, [.sl])] [(false, [.sl])] lf Tryz.func193 rfl Tryz.ntmps193 Tryz.call193 (fun _ => by kernel_rfl) fun _ _ _ => by kernel_rfl
def xY : List N := aeb :: adR
def ae7 : C := ⟨T, xY, ⟨[], [5, 6, 8, 9, 15, 17, 19, 24, 26], [7, 10], [(4, [(19, 3)], []), (13, [(8, 120), (26, 3)], [])], [], []⟩, 66⟩
def aef : N := M ae7 hT 202 [.sh (false, [.sl]), .sh (false, [.sl])] [(false, [.sl])] oR Tryz.func202 rfl Tryz.ntmps202 Tryz.call202 (fun _ => by kernel_rfl) fun _ _ _ => by kernel_rfl
def yg : List N := aef :: xY
def adj : C := ⟨T, yg, ⟨[], [5, 8], [], [], [], []⟩, 21⟩
def acZ : N := M adj hT 194 [.sh (false, [.sl]), .sh (false, [.int .i64])] [(false, [.sl])] qy Tryz.func194 rfl Tryz.ntmps194 Tryz.call194 (fun _ => by kernel_rfl) fun _ _ _ => by kernel_rfl
def uU : List N := acZ :: yg
def adz : C := ⟨T, uU, ⟨[], [0, 1, 5, 7, 23, 29, 43, 48, 63], [6, 8, 9, 10], [(10, [], []), (18, [(5, 120), (7, 120)], []), (26, [(0, 71), (1, 71)], []), (30, [(0, 71), (1, 71)], [])], [], []⟩, 75⟩
def acP : N := M adz hT 174 [.sh (false, [.sl]), .sh (false, [.sl])] [(false, [.sl])] qk Tryz.func174 rfl Tryz.ntmps174 Tryz.call174 (fun _ => by kernel_rfl) fun _ _ _ => by kernel_rfl
def uI : List N := acP :: uU
def xU : C := ⟨T, uI, ⟨[], [1, 12], [], [(2, [], [])], [], []⟩, 29⟩
def xN : N := M xU hT 173 [.sh (false, [.ptr]), .sh (false, [.sl])] [(false, [.sl])] dH Tryz.func173 rfl Tryz.ntmps173 Tryz.call173 (fun _ => by kernel_rfl) fun _ _ _ => by kernel_rfl
def oV : List N := xN :: uI
def yR : C := ⟨T, oV, ⟨[], [], [], [], [], []⟩, 12⟩
def wI : N := M yR hT 152 [.sh (false, [.ptr]), .sh (false, [.sl]), .sh (false, [.sl])] [(false, [.sl])] gX Tryz.func152 rfl Tryz.ntmps152 Tryz.call152 (fun _ => by kernel_rfl) fun _ _ _ => by kernel_rfl
def pz : List N := wI :: oV
def abF : C := ⟨T, pz, ⟨[1], [1, 9, 15, 30], [], [(2, [(3, 4)], []), (7, [(2, 4)], [])], [], []⟩, 44⟩
def abr : N := M abF hT 85 [.sh (true, [.bool, .sl, .sl])] [(false, [.bool])] bq Tryz.func85 rfl Tryz.ntmps85 Tryz.call85 (fun _ => by kernel_rfl) fun _ _ _ => by kernel_rfl
theorem nV (x0 : Bool × Sl × Sl) : Lf Tryz.prog 85 [Value.agg (dM x0).toArray] Value.bool (bq x0) := fun w m hr S H => cast (by kernel_rfl) (abr.ok (x0, ()) w m S hr H)
def sy : List N := abr :: pz
def xb : C := ⟨T, sy, ⟨[2], [2, 22], [], [(5, [(26, 4)], [])], [], []⟩, 31⟩
def wY : N := M xb hT 166 [.sh (false, [.ptr])] [(true, [.bool, .sl, .sl])] gf Tryz.func166 rfl Tryz.ntmps166 Tryz.call166 (fun _ => by kernel_rfl) fun _ _ _ => by kernel_rfl
def pQ : List N := wY :: sy
def xR : C := ⟨T, pQ, ⟨[1, 2], [1], [], [], [], []⟩, 10⟩
def wN : N := M xR hT 183 [.sh (true, [.ptr])] [(true, [.int .i64, .bool, .sl, .sl])] nI Tryz.func183 rfl Tryz.ntmps183 Tryz.call183 (fun _ => by kernel_rfl) fun _ _ _ => by kernel_rfl
def oZ : List N := wN :: pQ
def iO : C := ⟨T, oZ, ⟨[], [6, 10], [], [(3, [(6, 129), (10, 3)], [])], [], []⟩, 23⟩
def iM : N := M iO hT 182 [.sh (false, [.ptr]), .sh (false, [.int .i64]), .fn 183 [(true, [.ptr])] 0] [(false, [.sl])] eL Tryz.func182 rfl Tryz.ntmps182 Tryz.call182 (fun _ => by kernel_rfl) fun _ _ _ => by kernel_rfl
def el : List N := iM :: oZ
def yd : C := ⟨T, el, ⟨[1, 2], [1], [], [], [], []⟩, 12⟩
def wS : N := M yd hT 165 [.sh (true, [.ptr])] [(true, [.bool, .sl, .sl, .sl])] mZ Tryz.func165 rfl Tryz.ntmps165 Tryz.call165 (fun _ => by kernel_rfl) fun _ _ _ => by kernel_rfl
def oz : List N := wS :: el
def iH : C := ⟨T, oz, ⟨[], [6, 10], [], [(3, [(6, 24), (10, 3)], [])], [], []⟩, 23⟩
def iQ : N := M iH hT 164 [.sh (false, [.ptr]), .sh (false, [.int .i64]), .fn 165 [(true, [.ptr])] 0] [(false, [.sl])] eY Tryz.func164 rfl Tryz.ntmps164 Tryz.call164 (fun _ => by kernel_rfl) fun _ _ _ => by kernel_rfl
def dW : List N := iQ :: oz
def vG : C := ⟨T, dW, ⟨[1], [1], [], [], [], []⟩, 8⟩
def vK : N := M vG hT 120 [.sh (true, [.ptr])] [(false, [.sl])] ie Tryz.func120 rfl Tryz.ntmps120 Tryz.call120 (fun _ => by kernel_rfl) fun _ _ _ => by kernel_rfl
def nR : List N := vK :: dW
def wK : C := ⟨T, nR, ⟨[2], [2], [], [], [], []⟩, 15⟩
def zi : N := M wK hT 128 [.sh (false, [.ptr])] [(true, [.bool, .sl, .sl, .bool, .sl, .sl])] gT Tryz.func128 rfl Tryz.ntmps128 Tryz.call128 (fun _ => by kernel_rfl) fun _ _ _ => by kernel_rfl
def oI : List N := zi :: nR
def wE : C := ⟨T, oI, ⟨[1, 2], [1], [], [], [], []⟩, 16⟩
def wO : N := M wE hT 122 [.sh (true, [.ptr])] [(true, [.int .i64, .int .i64, .int .i64, .bool, .sl, .sl, .bool, .sl, .sl])] nM Tryz.func122 rfl Tryz.ntmps122 Tryz.call122 (fun _ => by kernel_rfl) fun _ _ _ => by kernel_rfl
def pS : List N := wO :: oI
def iD : C := ⟨T, pS, ⟨[], [6, 10], [], [(3, [(6, 25), (10, 3)], [])], [], []⟩, 23⟩
def iz : N := M iD hT 121 [.sh (false, [.ptr]), .sh (false, [.int .i64]), .fn 122 [(true, [.ptr])] 0] [(false, [.sl])] cy Tryz.func121 rfl Tryz.ntmps121 Tryz.call121 (fun _ => by kernel_rfl) fun _ _ _ => by kernel_rfl
def dV : List N := iz :: pS
def kI : C := ⟨T, dV, ⟨[], [6, 10], [], [(3, [(6, 27), (10, 3)], [])], [], []⟩, 23⟩
def kC : N := M kI hT 126 [.sh (false, [.ptr]), .sh (false, [.int .i64]), .fn 12 [(false, [.ptr])] 0] [(false, [.sl])] cF Tryz.func126 rfl Tryz.ntmps126 Tryz.call126 (fun _ => by kernel_rfl) fun _ _ _ => by kernel_rfl
def gz : List N := kC :: dV
def yK : C := ⟨T, gz, ⟨[1], [1], [], [], [], []⟩, 9⟩
def yf : N := M yK hT 53 [.sh (true, [.ptr])] [(false, [.sl])] dL Tryz.func53 rfl Tryz.ntmps53 Tryz.call53 (fun _ => by kernel_rfl) fun _ _ _ => by kernel_rfl
def oS : List N := yf :: gz
def jT : C := ⟨T, oS, ⟨[], [6, 10], [], [(3, [(6, 26), (10, 3)], [])], [], []⟩, 23⟩
def jZ : N := M jT hT 123 [.sh (false, [.ptr]), .sh (false, [.int .i64]), .fn 53 [(true, [.ptr])] 0] [(false, [.sl])] ci Tryz.func123 rfl Tryz.ntmps123 Tryz.call123 (fun _ => by kernel_rfl) fun _ _ _ => by kernel_rfl
def fR : List N := jZ :: oS
def sq : C := ⟨T, fR, ⟨[1, 2, 3], [1, 3], [], [(1, [], [(3, 29)])], [], []⟩, 33⟩
def sG : N := M sq hT 51 [.sh (true, [.ptr])] [(true, [.int .i64, .int .i64, .sl, .sl, .sl, .sl, .sl])] kq Tryz.func51 rfl Tryz.ntmps51 Tryz.call51 (fun _ => by kernel_rfl) fun _ _ _ => by kernel_rfl
def lG : List N := sG :: fR
def uo : C := ⟨T, lG, ⟨[1, 2], [1], [], [], [], []⟩, 12⟩
def tV : N := M uo hT 125 [.sh (true, [.ptr])] [(true, [.sl, .bool, .int .i64])] lp Tryz.func125 rfl Tryz.ntmps125 Tryz.call125 (fun _ => by kernel_rfl) fun _ _ _ => by kernel_rfl
def mP : List N := tV :: lG
def gP : C := ⟨T, mP, ⟨[], [6, 10], [], [(3, [(6, 32), (10, 3)], [])], [], []⟩, 23⟩
def gM : N := M gP hT 124 [.sh (false, [.ptr]), .sh (false, [.int .i64]), .fn 125 [(true, [.ptr])] 0] [(false, [.sl])] b6 Tryz.func124 rfl Tryz.ntmps124 Tryz.call124 (fun _ => by kernel_rfl) fun _ _ _ => by kernel_rfl
def cT : List N := gM :: mP
def ue : C := ⟨T, cT, ⟨[1], [1, 2, 23], [4], [(5, [(23, 3)], [])], [], []⟩, 36⟩
def ux : N := M ue hT 52 [.sh (true, [.ptr])] [(true, [.sl, .sl, .sl, .sl, .sl, .sl, .sl, .int .i64])] kV Tryz.func52 rfl Tryz.ntmps52 Tryz.call52 (fun _ => by kernel_rfl) fun _ _ _ => by kernel_rfl
def mz : List N := ux :: cT
def ig : C := ⟨T, mz, ⟨[], [6, 10], [], [(3, [(6, 37), (10, 3)], [])], [], []⟩, 23⟩
def hY : N := M ig hT 127 [.sh (false, [.ptr]), .sh (false, [.int .i64]), .fn 128 [(false, [.ptr])] 0] [(false, [.sl])] cj Tryz.func127 rfl Tryz.ntmps127 Tryz.call127 (fun _ => by kernel_rfl) fun _ _ _ => by kernel_rfl
def dP : List N := hY :: mz
def yW : C := ⟨T, dP, ⟨[1, 2], [1], [], [], [], []⟩, 10⟩
def yA : N := M yW hT 130 [.sh (true, [.ptr])] [(true, [.int .i64, .bool, .sl, .sl, .bool, .sl, .sl])] kK Tryz.func130 rfl Tryz.ntmps130 Tryz.call130 (fun _ => by kernel_rfl) fun _ _ _ => by kernel_rfl
def o9 : List N := yA :: dP
def iS : C := ⟨T, o9, ⟨[], [6, 10], [], [(3, [(6, 38), (10, 3)], [])], [], []⟩, 23⟩
def iK : N := M iS hT 129 [.sh (false, [.ptr]), .sh (false, [.int .i64]), .fn 130 [(true, [.ptr])] 0] [(false, [.sl])] bJ Tryz.func129 rfl Tryz.ntmps129 Tryz.call129 (fun _ => by kernel_rfl) fun _ _ _ => by kernel_rfl
def eg : List N := iK :: o9
def wh : C := ⟨T, eg, ⟨[1, 2], [1, 2], [], [], [], []⟩, 29⟩
def vF : N := M wh hT 54 [.sh (true, [.ptr])] [(true, [.sl, .sl, .sl, .sl, .sl])] mf Tryz.func54 rfl Tryz.ntmps54 Tryz.call54 (fun _ => by kernel_rfl) fun _ _ _ => by kernel_rfl
def oc : List N := vF :: eg
def xA : C := ⟨T, oc, ⟨[1, 2], [1], [], [], [], []⟩, 15⟩
def xu : N := M xA hT 56 [.sh (true, [.ptr])] [(true, [.int .i64, .bool, .int .i64, .bool, .sl, .sl, .bool, .sl, .sl, .int .i64])] m7 Tryz.func56 rfl Tryz.ntmps56 Tryz.call56 (fun _ => by kernel_rfl) fun _ _ _ => by kernel_rfl
def oO : List N := xu :: oc
def iE : C := ⟨T, oO, ⟨[], [6, 10], [], [(3, [(6, 41), (10, 3)], [])], [], []⟩, 23⟩
def iy : N := M iE hT 55 [.sh (false, [.ptr]), .sh (false, [.int .i64]), .fn 56 [(true, [.ptr])] 0] [(false, [.sl])] cz Tryz.func55 rfl Tryz.ntmps55 Tryz.call55 (fun _ => by kernel_rfl) fun _ _ _ => by kernel_rfl
def ef : List N := iy :: oO
def jN : C := ⟨T, ef, ⟨[], [6, 10], [], [(3, [(6, 42), (10, 3)], [])], [], []⟩, 23⟩
def jS : N := M jN hT 57 [.sh (false, [.ptr]), .sh (false, [.int .i64]), .fn 58 [(false, [.ptr])] 0] [(false, [.sl])] dG Tryz.func57 rfl Tryz.ntmps57 Tryz.call57 (fun _ => by kernel_rfl) fun _ _ _ => by kernel_rfl
def fP : List N := jS :: ef
def zN : C := ⟨T, fP, ⟨[2], [], [], [], [], []⟩, 22⟩
def zV : N := M zN hT 46 [.sh (false, [.ptr])] [(true, [.ptr, .ptr, .ptr, .ptr, .ptr, .ptr])] jX Tryz.func46 rfl Tryz.ntmps46 Tryz.call46 (fun _ => by kernel_rfl) fun _ _ _ => by kernel_rfl
def q6 : List N := zV :: fP
def vB : C := ⟨T, q6, ⟨[1], [1, 2, 46], [4], [(11, [(46, 3)], [])], [], []⟩, 56⟩
def vX : N := M vB hT 13 [.sh (true, [.ptr])] [(true, zH)] jI Tryz.func13 rfl Tryz.ntmps13 Tryz.call13 (fun _ => by kernel_rfl) fun _ _ _ => by kernel_rfl
def nS : List N := vX :: q6
def zx : C := ⟨T, nS, ⟨[], [7], [], [(2, [(14, 4)], [])], [], []⟩, 15⟩
def zq : N := M zx hT 14 [.sh (false, [.ptr])] [(false, [.int .i64])] lM Tryz.func14 rfl Tryz.ntmps14 Tryz.call14 (fun _ => by kernel_rfl) fun _ _ _ => by kernel_rfl
def rh : List N := zq :: nS
def adK : C := ⟨T, rh, ⟨[1], [1], [], [], [], []⟩, 13⟩
def acK : N := M adK hT 94 [.sh (true, [.bool, .sl, .sl])] [(false, [.int .i64])] iU Tryz.func94 rfl Tryz.ntmps94 Tryz.call94 (fun _ => by kernel_rfl) fun _ _ _ => by kernel_rfl
theorem wV (x0 : Bool × Sl × Sl) : Lf Tryz.prog 94 [Value.agg (dM x0).toArray] (Value.int .i64) (iU x0) := fun w m hr S H => cast (by kernel_rfl) (acK.ok (x0, ()) w m S hr H)
def ve : List N := acK :: rh
def zA : C := ⟨T, ve, ⟨[1, 5], [1, 5, 7, 9, 17, 23], [3], [(4, [(3, 3), (9, 3)], []), (11, [(28, 4)], [])], [], []⟩, 35⟩
def aap : N := M zA hT 60 [.sh (true, [.bool, .sl, .sl, .sl])] [(false, [.bool])] iZ Tryz.func60 rfl Tryz.ntmps60 Tryz.call60 (fun _ => by kernel_rfl) fun _ _ _ => by kernel_rfl
def qH : List N := aap :: ve
def vj : C := ⟨T, qH, ⟨[1], [], [], [], [], []⟩, 6⟩
def vO : N := M vj hT 59 [.sh (true, [.bool, .sl, .sl, .sl])] [(false, [.bool])] md Tryz.func59 rfl Tryz.ntmps59 Tryz.call59 (fun _ => by kernel_rfl) fun _ _ _ => by kernel_rfl
def nZ : List N := vO :: qH
def dQ : C := ⟨T, nZ, ⟨[], [5, 8], [], [(3, [(8, 3)], [])], [], []⟩, 19⟩
def dR : N := M dQ hT 133 [.sh (false, [.sl]), .fn 59 [] 0] [(false, [.int .i64])] bW Tryz.func133 rfl Tryz.ntmps133 Tryz.call133 (fun _ => by kernel_rfl) fun _ _ _ => by kernel_rfl
def bR : List N := dR :: nZ
def dm : C := ⟨T, bR, ⟨[], [], [], [], [], []⟩, 9⟩
def dr : N := M dm hT 61 [.sh (false, [.sl]), .fn 59 [] 0] [(false, [.bool])] bL Tryz.func61 rfl Tryz.ntmps61 Tryz.call61 (fun _ => by kernel_rfl) fun _ _ _ => by kernel_rfl
def bA : List N := dr :: bR
def ab2 : C := ⟨T, bA, ⟨[1], [1, 11], [3], [(2, [(2, 4)], [])], [], []⟩, 18⟩
def abm : N := M ab2 hT 15 [.sh (true, [.int .i64, .int .i64, .sl, .sl, .sl, .sl, .sl])] [(false, [.bool])] nO Tryz.func15 rfl Tryz.ntmps15 Tryz.call15 (fun _ => by kernel_rfl) fun _ _ _ => by kernel_rfl
def si : List N := abm :: bA
def zr : C := ⟨T, si, ⟨[], [6, 12], [], [(1, [(3, 4)], [])], [], []⟩, 19⟩
def zt : N := M zr hT 64 [.sh (false, [.int .i64]), .sh (false, [.adr])] [(false, [.bool])] iW Tryz.func64 rfl Tryz.ntmps64 Tryz.call64 (fun _ => by kernel_rfl) fun _ _ _ => by kernel_rfl
theorem tW (l : Int) (c0 : Addr) : Lf Tryz.prog 64 [Value.int .i64 l, Value.pointer (some c0)] Value.bool (iW l c0) := fun w m hr S H => cast (by kernel_rfl) (zt.ok (l, c0, ()) w m S hr H)
def rm : List N := zt :: si
def tX : C := ⟨T, rm, ⟨[], [5], [], [(1, [(2, 4)], [])], [], []⟩, 9⟩
def uu : N := M tX hT 76 [.sh (false, [.int .i64])] [(false, [.bool])] fy Tryz.func76 rfl Tryz.ntmps76 Tryz.call76 (fun _ => by kernel_rfl) fun _ _ _ => by kernel_rfl
theorem qE (x0 : Int) : Lf Tryz.prog 76 [Value.int .i64 x0] Value.bool (fy x0) := fun w m hr S H => cast (by kernel_rfl) (uu.ok (x0, ()) w m S hr H)
def mE : List N := uu :: rm
def vL : C := ⟨T, mE, ⟨[], [5], [], [(1, [(2, 4)], [])], [], []⟩, 9⟩
def vM : N := M vL hT 82 [.sh (false, [.int .i64])] [(false, [.bool])] dO Tryz.func82 rfl Tryz.ntmps82 Tryz.call82 (fun _ => by kernel_rfl) fun _ _ _ => by kernel_rfl
theorem rp (n : Int) : Lf Tryz.prog 82 [Value.int .i64 n] Value.bool (dO n) := fun w m hr S H => cast (by kernel_rfl) (vM.ok (n, ()) w m S hr H)
def vv : List N := vM :: mE
theorem p_ {n : Nat} {B : Base} {ops : Array Oper} {Q : Exit → Act → World → Prop} {h : Hp} (k : Nat) {L L' : Frm} {l l' : List Oper} (hr : z9 T n ops k L l = some (L', l')) (H : AtL Tryz.prog n B ops Q L' h l') : AtL Tryz.prog n B ops Q L h l := pg hT k hr H
section
set_option maxHeartbeats 40000000
attribute [local irreducible] Calls AtL AtC AtE AtD Eff Quiet1 Stg qAt QAll eAt EAll ru Code.wp
theorem ke (s0 : Sl) (f : FnV) : Lf Tryz.prog 136 [Sl.toV s0, FnV.toV f] (Value.int .i64) (dl s0 f) := by
 refine Lf.go Tryz.func136 Tryz.ntmps136 Y Y [0, 1] Y fun w m S H => ?_
 unfold dl at H
 refine sR (p_ 1 Y (ng (AtC.seq (sR (p_ 3 Y (ng (AtC.block ?_)))))))
 refine AtC.loopM (fun (s0u1 : Int) => [(8, Value.int .i64 s0u1)]) (fun (s0u1 : Int) => []) [0, 1, 7] [8, 0, 1, 7] [] [] H Y Y Y (by decide) Y (fun Kp1 s0u1 h0 H Q1 HK1 => ?_)
 refine sR (p_ 1 Y (ng (AtC.seq ?_)))
 refine AtC.condB H Y (fun H => ?_) (fun H => ?_)
 refine AtC.skip (tg (AtC.seq (AtC.block (sR (p_ 2 Y (ng (sR ?_)))))))
 refine p_ 3 Y (ix hT H Y Y Y Y Y Y fun _ H => ld hT H Y Y Y Y fun _ H => AtL.e Y ((fun H => Or.elim H (fun ⟨dc3u0, he3, H⟩ => EffX.callFd (bs := []) (cs := [_]) (f := 64) (sh := fun h => iW _ _ h _) (H0 := H) Y Y he3 Tryz.call64 Y (hl := fun w m hr hw => tW _ _ w m hr _ hw)) (fun H => Or.elim H (fun ⟨he3, H⟩ => EffX.callFd (bs := []) (cs := []) (f := 76) (sh := fun h => fy _ h _) (H0 := H) Y Y he3 Tryz.call76 Y (hl := fun w m hr hw => qE _ w m hr _ hw)) (fun ⟨he3, H⟩ => EffX.callFd (bs := []) (cs := []) (f := 82) (sh := fun h => dO _ h _) (H0 := H) Y Y he3 Tryz.call82 Y (hl := fun w m hr hw => rp _ w m hr _ hw)))) H) ?_)
 rintro _ _ ⟨v_1, h1, rfl, rfl, H⟩
 refine ng ?_
 refine AtC.condB H Y (fun H => ?_) (fun H => ?_)
 refine sR (p_ 2 Y (ng (AtC.ret (AtE.blk_r (AtE.then_r (AtE.then_r (AtE.blk_r ?_)))))))
 refine AtE.then_r ?_
 exact r1 4 Y Y Y H
 refine AtC.skip (AtE.blk_n (tg (AtC.region (p_ 2 Y (AtL.nil ?_)))))
 exact pkz (HK1 _ _ H) [8, 0, 1, 7] [] Y
 refine AtC.exit (AtE.then_x (AtE.then_x (AtE.blk_hit (tg (sR (p_ 1 Y (ng ?_)))))))
 refine AtC.ret ?_
 exact r1 4 Y Y Y H
end
def lC : N := { f := 136, ps := [.sh (false, [.sl]), .sh (false, [.fn])], rs := [(false, [.int .i64])], sem := dl, ok := fun x w m S hr H => cast (by kernel_rfl) (ke x.1 x.2.1 w m hr S H), call := Tryz.call136 }
def gZ : List N := lC :: vv
def km : C := ⟨T, gZ, ⟨[], [], [], [], [], []⟩, 9⟩
def kr : N := M km hT 67 [.sh (false, [.sl]), .sh (false, [.fn])] [(false, [.bool])] dU Tryz.func67 rfl Tryz.ntmps67 Tryz.call67 (fun _ => by kernel_rfl) fun _ _ _ => by kernel_rfl
def gr : List N := kr :: gZ
def zR : C := ⟨T, gr, ⟨[], [], [], [], [], []⟩, 7⟩
def aav : N := M zR hT 66 [.sh (false, [.sl]), .sh (false, [.adr])] [(false, [.bool])] oy Tryz.func66 rfl Tryz.ntmps66 Tryz.call66 (fun _ => by kernel_rfl) fun _ _ _ => by kernel_rfl
def qM : List N := aav :: gr
def gD : C := ⟨T, qM, ⟨[], [5, 8], [], [(3, [(8, 3)], [])], [], [(11, 66, 1)]⟩, 19⟩
def gC : N := M gD hT 135 [.sh (false, [.sl]), .fn 66 [] 1] [(false, [.int .i64])] bY Tryz.func135 rfl Tryz.ntmps135 Tryz.call135 (fun _ => by kernel_rfl) fun _ _ _ => by kernel_rfl
def cQ : List N := gC :: qM
def gi : C := ⟨T, cQ, ⟨[], [], [], [], [], []⟩, 9⟩
def gh : N := M gi hT 65 [.sh (false, [.sl]), .fn 66 [] 1] [(false, [.bool])] aB Tryz.func65 rfl Tryz.ntmps65 Tryz.call65 (fun _ => by kernel_rfl) fun _ _ _ => by kernel_rfl
def cp : List N := gh :: cQ
def aee : C := ⟨T, cp, ⟨[], [], [], [], [], []⟩, 4⟩
def aeM : N := M aee hT 68 [.sh (true, [.int .i64, .int .i64, .sl, .sl, .sl, .sl, .sl])] [(false, [.fn])] jO Tryz.func68 rfl Tryz.ntmps68 Tryz.call68 (fun _ => by kernel_rfl) fun _ _ _ => by kernel_rfl
def aeI : List N := aeM :: cp
section
set_option maxHeartbeats 40000000
attribute [local irreducible] Calls AtL AtC AtE AtD Eff Quiet1 Stg qAt QAll eAt EAll ru Code.wp
theorem yz (p : Int × Int × Sl × Sl × Sl × Sl × Sl) : Lf Tryz.prog 69 [Value.agg (aG p).toArray] FnV.toV (cA p) := by
 refine Lf.go Tryz.func69 Tryz.ntmps69 Y Y [0] Y fun w m S H => ?_
 unfold cA at H
 refine sR (AtL.e Y (EffX.box (cs := [_, _, _, _, _, _, _]) Y Y Y H) ?_)
 rintro _ _ ⟨p_1, h0, rfl, rfl, H⟩
 refine p_ 1 Y (ng (sR (AtL.e Y (EffX.newM Y H) ?_)))
 rintro _ _ ⟨v, h1, rfl, rfl, H⟩
 refine AtL.e Y (EffX.alloc hT Y Y H) ?_
 rintro _ _ ⟨seen, h2, rfl, rfl, H⟩
 refine AtL.e Y (EffX.store hT Y Y Y Y Y H) ?_
 rintro _ _ ⟨h3, rfl, H⟩
 refine ng (sR (AtL.q Y (Quiet1.makeFn (bs := []) (cs := [_, _]) Y Y Y) (p_ 1 Y (ng (AtC.ret ?_)))))
 exact r1 2 Y Y Y H
end
def adv : N := { f := 69, ps := [.sh (true, [.int .i64, .int .i64, .sl, .sl, .sl, .sl, .sl])], rs := [(false, [.fn])], sem := cA, ok := fun x w m S hr H => cast (by kernel_rfl) (yz x.1 w m hr S H), call := Tryz.call69 }
def uS : List N := adv :: aeI
def z4 : C := ⟨T, uS, ⟨[2], [2, 6, 12, 18], [], [(1, [(3, 4)], [])], [], []⟩, 32⟩
def zS : N := M z4 hT 137 [.sh (true, [.bool, .sl, .sl, .sl]), .sh (false, [.adr])] [(false, [.bool])] oJ Tryz.func137 rfl Tryz.ntmps137 Tryz.call137 (fun _ => by kernel_rfl) fun _ _ _ => by kernel_rfl
def qV : List N := zS :: uS
def aab : C := ⟨T, qV, ⟨[2], [], [], [], [], [(4, 137, 1)]⟩, 8⟩
def zv : N := M aab hT 70 [.sh (true, [.bool, .sl, .sl, .sl]), .sh (false, [.adr])] [(false, [.bool])] lJ Tryz.func70 rfl Tryz.ntmps70 Tryz.call70 (fun _ => by kernel_rfl) fun _ _ _ => by kernel_rfl
def qN : List N := zv :: qV
def eH : C := ⟨T, qN, ⟨[], [5, 8], [], [(3, [(8, 3)], [])], [], []⟩, 19⟩
def ez : N := M eH hT 133 [.sh (false, [.sl]), .fn 70 [] 1] [(false, [.int .i64])] aT Tryz.func133 rfl Tryz.ntmps133 Tryz.call133 (fun _ => by kernel_rfl) fun _ _ _ => by kernel_rfl
def bV : List N := ez :: qN
def dI : C := ⟨T, bV, ⟨[], [], [], [], [], []⟩, 9⟩
def dK : N := M dI hT 61 [.sh (false, [.sl]), .fn 70 [] 1] [(false, [.bool])] aw Tryz.func61 rfl Tryz.ntmps61 Tryz.call61 (fun _ => by kernel_rfl) fun _ _ _ => by kernel_rfl
def bO : List N := dK :: bV
def agu : C := ⟨T, bO, ⟨[2], [3], [], [(2, [(3, 120)], [])], [], []⟩, 16⟩
def agQ : N := M agu hT 140 [.sh (false, [.int .i64])] [(true, [.bool, .sl, .sl])] ti Tryz.func140 rfl Tryz.ntmps140 Tryz.call140 (fun _ => by kernel_rfl) fun _ _ _ => by kernel_rfl
theorem abX (n : Int) : Lf Tryz.prog 140 [Value.int .i64 n] (fun r => Value.agg (dM r).toArray) (ti n) := fun w m hr S H => cast (by kernel_rfl) (agQ.ok (n, ()) w m S hr H)
def aaW : List N := agQ :: bO
def yV : C := ⟨T, aaW, ⟨[], [], [], [], [], []⟩, 14⟩
def xm : N := M yV hT 198 [.sh (false, [.ptr]), .sh (false, [.sl]), .sh (false, [.sl])] [(false, [.sl])] eT Tryz.func198 rfl Tryz.ntmps198 Tryz.call198 (fun _ => by kernel_rfl) fun _ _ _ => by kernel_rfl
def pK : List N := xm :: aaW
def adg : C := ⟨T, pK, ⟨[2, 4], [2], [], [], [], []⟩, 13⟩
def adM : N := M adg hT 186 [.sh (true, [.bool, .sl]), .sh (false, [.sl])] [(true, [.bool, .sl])] qw Tryz.func186 rfl Tryz.ntmps186 Tryz.call186 (fun _ => by kernel_rfl) fun _ _ _ => by kernel_rfl
def uP : List N := adM :: pK
def abN : C := ⟨T, uP, ⟨[2, 3, 4, 5], [2, 3], [], [], [], []⟩, 16⟩
def abA : N := M abN hT 167 [.sh (true, [.bool, .sl, .sl]), .sh (true, [.bool, .sl, .sl])] [(true, [.bool, .sl]), (true, [.bool, .sl])] nC Tryz.func167 rfl Tryz.ntmps167 Tryz.call167 (fun _ => by kernel_rfl) fun _ _ _ => by kernel_rfl
def sw : List N := abA :: uP
def agl : C := ⟨T, sw, ⟨[], [4, 5, 6, 8, 14, 20], [], [(4, [(4, 71), (5, 120), (14, 3)], []), (12, [(5, 120), (20, 3)], []), (16, [(5, 120)], [])], [], []⟩, 48⟩
def agB : N := M agl hT 199 [.sh (false, [.sl]), .sh (false, [.sl])] [(false, [.sl])] qr Tryz.func199 rfl Tryz.ntmps199 Tryz.call199 (fun _ => by kernel_rfl) fun _ _ _ => by kernel_rfl
def aaJ : List N := agB :: sw
def zk : C := ⟨T, aaJ, ⟨[], [], [], [], [], []⟩, 12⟩
def zf : N := M zk hT 187 [.sh (false, [.ptr]), .sh (false, [.sl]), .sh (false, [.sl])] [(false, [.sl])] fX Tryz.func187 rfl Tryz.ntmps187 Tryz.call187 (fun _ => by kernel_rfl) fun _ _ _ => by kernel_rfl
def oK : List N := zf :: aaJ
def yx : C := ⟨T, oK, ⟨[], [], [], [], [], []⟩, 17⟩
def zl : N := M yx hT 189 [.sh (false, [.ptr]), .sh (false, [.sl]), .sh (false, [.sl])] [(false, [.sl])] gR Tryz.func189 rfl Tryz.ntmps189 Tryz.call189 (fun _ => by kernel_rfl) fun _ _ _ => by kernel_rfl
def py : List N := zl :: oK
def ae8 : C := ⟨T, py, ⟨[2, 3, 4], [2, 3, 4, 5], [], [], [], []⟩, 47⟩
def aej : N := M ae8 hT 168 [.sh (true, [.bool, .sl]), .sh (true, [.bool, .sl])] [(true, [.bool, .sl])] sF Tryz.func168 rfl Tryz.ntmps168 Tryz.call168 (fun _ => by kernel_rfl) fun _ _ _ => by kernel_rfl
def xa : List N := aej :: py
def afE : C := ⟨T, xa, ⟨[2, 3, 5, 6, 7], [5, 6, 7, 8], [], [], [], []⟩, 29⟩
def aep : N := M afE hT 139 [.sh (true, [.bool, .sl, .sl]), .sh (true, [.bool, .sl, .sl])] [(false, [.int .i64])] j6 Tryz.func139 rfl Tryz.ntmps139 Tryz.call139 (fun _ => by kernel_rfl) fun _ _ _ => by kernel_rfl
theorem zF (x0 : Bool × Sl × Sl) (y : Bool × Sl × Sl) : Lf Tryz.prog 139 [Value.agg (dM x0).toArray, Value.agg (dM y).toArray] (Value.int .i64) (j6 x0 y) := fun w m hr S H => cast (by kernel_rfl) (aep.ok (x0, y, ()) w m S hr H)
def aeh : List N := aep :: xa
theorem q_ {n : Nat} {h : Hp} {ops : List Oper} {V : Frm} {i : Nat} {r : List Nat} {v : Value} (hb : qpB T n ops V i = some (v, v)) (h2 : QAll Tryz.prog n ops V h r) : QAll Tryz.prog n ops V h (i :: r) := qp hT hb h2
theorem l_ {n : Nat} {L : Frm} {h : Hp} {o : Oper} (i : Nat) {v : Value} {b : Nat} (hb : lPf T L h o i = some (v, b, b)) : Quiet1 Tryz.prog n L h o v := lP hT i hb
theorem s_ {n : Nat} {L : Frm} {h : Hp} {o : Oper} (i : Nat) (l : List Value) {b : Nat} (hb : lSf T L h o i = some (l, b, b)) : Quiet1 Tryz.prog n L h o (.agg l.toArray) := lS2 hT i l hb
section
set_option maxHeartbeats 40000000
attribute [local irreducible] Calls AtL AtC AtE AtD Eff Quiet1 Stg qAt QAll eAt EAll ru Code.wp
theorem rY (a : Int × Int × Int × Bool × Sl × Sl × Bool × Sl × Sl) (c0 : Addr) (c1 : Addr) : Lf Tryz.prog 138 [Value.agg (aN a).toArray, Value.pointer (some c0), Value.pointer (some c1)] Value.bool (i6 a c0 c1) := by
 refine Lf.go Tryz.func138 Tryz.ntmps138 Y Y [0, 1, 2] Y fun w m S H => ?_
 unfold i6 at H
 refine sR (bx [_, _, _, _, _, _, _, _, _] H Y Y Y Y fun b _ H => p_ 1 Y (ng ?_))
 refine AtC.joinSeq (β := Unit) (fun (t0 : Bool) (bb : Unit) => [(5, Value.bool t0)]) (fun (t0 : Bool) (bb : Unit) => []) [1, 2, 3] [0] H.self Y Y (fun t0 bb h1 H => ?_) (fun J1 H HK1 => ?_)
 refine AtC.joinSeq (β := Unit) (fun (t0u1 : Bool) (bb_1 : Unit) => [(6, Value.bool t0u1)]) (fun (t0u1 : Bool) (bb_1 : Unit) => []) [1, 2, 3, 5] [0] H Y Y (fun t0u1 bb_1 h2 H => ?_) (fun J6 H HK6 => ?_)
 refine AtC.joinSeq (β := Unit) (fun (t0u2 : Bool) (bb_2 : Unit) => [(7, Value.bool t0u2)]) (fun (t0u2 : Bool) (bb_2 : Unit) => []) [2, 3] [0] H Y Y (fun t0u2 bb_2 h6 H => ?_) (fun J8 H HK8 => ?_)
 refine sR (ld hT H Y Y Y Y fun _ H => p_ 1 Y (AtL.q Y (l_ 0 Y) (AtL.e Y (EffX.setM hT Y Y Y Y Y Y H) ?_)))
 rintro _ _ ⟨h9, rfl, H⟩
 refine ng (sR (p_ 2 Y (ng (AtC.ret ?_))))
 exact r1 4 Y Y Y H
 refine AtC.region (p_ 2 Y ?_)
 refine AtL.splitB (t := 55) H Y (fun H => ?_) (fun H => ?_)
 refine p_ 4 Y ?_
 refine AtL.splitB (t := 58) H Y (fun H => ?_) (fun H => ?_)
 refine p_ 3 Y (AtL.q Y (l_ 0 Y) (p_ 4 Y ?_))
 refine AtL.splitB (t := 63) H Y (fun H => ?_) (fun H => ?_)
 refine p_ 3 Y (AtL.q Y (l_ 0 Y) (p_ 3 Y (ld hT H Y Y Y Y fun _ H => p_ 4 Y ?_)))
 refine AtL.splitB (t := 70) H Y (fun H => ?_) (fun H => ?_)
 refine p_ 1 Y (ld hT H Y Y Y Y fun _ H => p_ 3 Y (AtL.q Y (l_ 0 Y) (p_ 1 Y ?_)))
 obtain ⟨fm10, v_9, hm10, hn10, H⟩ := H
 refine AtL.q Y (Quiet1.lookM1 (key := a.1) hT Y Y Y (by kernel_rfl) Y Y hm10 hn10) (p_ 4 Y ?_)
 refine AtL.splitB (t := 77) H Y (fun H => ?_) (fun H => ?_)
 refine p_ 5 Y (AtL.q Y (s_ 0 [_, _, _] Y) (p_ 1 Y (lc (nV _) H Tryz.call85 Y fun v_10 h7 H => p_ 2 Y ?_)))
 refine AtL.splitB (t := 83) H Y (fun H => ?_) (fun H => ?_)
 refine p_ 5 Y (AtL.q Y (s_ 0 [_, _, _] Y) (p_ 1 Y (lc (nV _) H Tryz.call85 Y fun v_11 h8 H => p_ 2 Y (AtL.nil ?_))))
 exact pkz (HK8 _ () _ H) [7, 2, 3] [0] Y
 refine p_ 6 Y (AtL.nil ?_)
 exact pkz (HK8 _ () _ H) [7, 2, 3] [0] Y
 refine p_ 12 Y (AtL.nil ?_)
 exact pkz (HK8 _ () _ H) [7, 2, 3] [0] Y
 refine p_ 19 Y (AtL.nil ?_)
 exact pkz (HK8 _ () _ H) [7, 2, 3] [0] Y
 refine p_ 26 Y (AtL.nil ?_)
 exact pkz (HK8 _ () _ H) [7, 2, 3] [0] Y
 refine p_ 31 Y (AtL.nil ?_)
 exact pkz (HK8 _ () _ H) [7, 2, 3] [0] Y
 refine p_ 34 Y (AtL.nil ?_)
 exact pkz (HK8 _ () _ H) [7, 2, 3] [0] Y
 apply AtC.stages [3, 9, 10] (rl [([], 4), ([3], 6), ([3, 9], 1), ([3, 9, 10], 3)]) [[], [0], [0, 1], [0, 1, 2], [0, 1, 2, 3], (ra 5), (ra 6), (ra 7), (ra 8), (ra 6), (ra 10), (ra 11), (ra 12), (ra 13)] hmix (by kernel_rfl) (nm 41 [_, _, _]) Y 3 Y
 refine Stg.go [0, 1, 2] [3] Y Y (q_ Y (q_ Y (qq Y (s_ 0 [_, _, _] Y) Y QAll.nil))) (ec (wV _) H Tryz.call94 Y fun v_4 h3 H => ?_)
 rcases iteB.cases H with ⟨hb6, H⟩ | ⟨hb6, H⟩
 apply Stg.next (nm 44 [_, _, _, _, _, _]) Y Y
 refine Stg.known (t := 46) Y hb6 (Stg.go [4, 5, 6, 7, 8] [9] Y Y (q_ Y (QAll.cons (QOp.pk hT Y Y Y Y hb6 Y) (qn Y Y Y Y (by decide) Y Y (qn Y Y Y Y (by decide) Y Y (qn Y Y Y Y (by decide) Y Y QAll.nil))))) ?_)
 refine EAll.cons ?_ EAll.nil
 refine EOp.no Y Y Y Y (by decide) Y ?_
 apply Stg.next [(50, _)] Y Y
 refine Stg.go [6, 7, 8] [10] Y Y (qn Y Y Y Y (by decide) Y Y (qn Y Y Y Y (by decide) Y Y (qn Y Y Y Y (by decide) Y Y QAll.nil))) ?_
 refine EAll.cons ?_ EAll.nil
 refine EOp.no Y Y Y Y (by decide) Y ?_
 apply Stg.next [(51, _), (52, _), (53, _), (6, _)] Y Y
 refine Stg.fin [11, 12, 13] Y Y (qn Y Y Y Y (by decide) Y Y (q_ Y (q_ Y QAll.nil))) ?_
 exact pkz (HK6 _ () _ H) [6, 1, 2, 3, 5] [0] Y
 apply Stg.next (nm 44 [_, _, _, _, _, _]) Y Y
 refine Stg.known (t := 46) Y hb6 (Stg.go [4, 5, 6, 7, 8] [9] Y Y (q_ Y (QAll.cons (QOp.pk hT Y Y Y Y hb6 Y) (QAll.cons (QOp.yp hT Y Y Y Y Y Y Y) (QAll.cons (QOp.yp hT Y Y Y Y Y Y Y) (QAll.cons (QOp.y Y Y Y Y (s_ 0 [_, _, _] Y) Y Y) QAll.nil))))) ?_)
 refine EAll.cons ?_ EAll.nil
 refine EOp.y Y Y Y Y Y (cl (fun h => ti _ h _) H Y Tryz.call140 Y (fun w m hr hw => abX _ w m hr _ hw)) ?_
 rintro _ _ ⟨v_5, h4, rfl, rfl, H⟩
 apply Stg.next [(50, _)] Y Y
 refine Stg.go [6, 7, 8] [10] Y Y (QAll.cons (QOp.yp hT Y Y Y Y Y Y Y) (QAll.cons (QOp.yp hT Y Y Y Y Y Y Y) (QAll.cons (QOp.y Y Y Y Y (s_ 0 [_, _, _] Y) Y Y) QAll.nil))) ?_
 refine EAll.cons ?_ EAll.nil
 refine EOp.y Y Y Y Y Y (cl (fun h => j6 _ _ h _) H Y Tryz.call139 Y (fun w m hr hw => zF _ _ w m hr _ hw)) ?_
 rintro _ _ ⟨v_6, h5, rfl, rfl, H⟩
 apply Stg.next [(51, _), (52, _), (53, _), (6, _)] Y Y
 refine Stg.fin [11, 12, 13] Y Y (QAll.cons (QOp.yp hT Y Y Y Y Y Y Y) (q_ Y (q_ Y QAll.nil))) ?_
 exact pkz (HK6 _ () _ H) [6, 1, 2, 3, 5] [0] Y
 refine AtC.region (p_ 1 Y (AtL.q Y (l_ 0 Y) (p_ 2 Y ?_)))
 refine AtL.splitB (t := 11) H Y (fun H => ?_) (fun H => ?_)
 refine p_ 3 Y (AtL.q Y (l_ 0 Y) (p_ 4 Y ?_))
 refine AtL.splitB (t := 16) H Y (fun H => ?_) (fun H => ?_)
 refine p_ 3 Y (AtL.q Y (l_ 0 Y) (p_ 3 Y (ld hT H Y Y Y Y fun _ H => p_ 4 Y ?_)))
 refine AtL.splitB (t := 23) H Y (fun H => ?_) (fun H => ?_)
 refine p_ 4 Y (AtL.noU Y Y Y Y (AtL.noU Y Y Y Y (AtL.noU Y Y Y Y (AtL.noU Y Y Y Y (AtL.noU Y Y Y Y (AtL.noU Y Y Y Y (p_ 2 Y ?_)))))))
 refine AtL.noU Y Y Y Y (AtL.noU Y Y Y Y (AtL.noU Y Y Y Y (p_ 3 Y (AtL.nil ?_))))
 exact pkz (HK1 _ () _ H) [5, 1, 2, 3] [0] Y
 refine p_ 3 Y (AtL.q Y (l_ 0 Y) (p_ 4 Y ?_))
 refine AtL.splitB (t := 27) H Y (fun H => ?_) (fun H => ?_)
 refine p_ 3 Y (AtL.q Y (l_ 0 Y) (p_ 3 Y (ld hT H Y Y Y Y fun _ H => p_ 8 Y ?_)))
 refine AtL.splitB (t := 35) H Y (fun H => ?_) (fun H => ?_)
 refine p_ 3 Y (AtL.q Y (l_ 0 Y) (p_ 6 Y (AtL.nil ?_)))
 exact pkz (HK1 _ () _ (H _ rfl)) [5, 1, 2, 3] [0] Y
 refine p_ 7 Y (AtL.nil ?_)
 exact pkz (HK1 _ () _ H) [5, 1, 2, 3] [0] Y
 refine p_ 17 Y (AtL.nil ?_)
 exact pkz (HK1 _ () _ H) [5, 1, 2, 3] [0] Y
 refine p_ 10 Y (AtL.q Y (l_ 0 Y) (p_ 4 Y ?_))
 refine AtL.splitB (t := 27) H Y (fun H => ?_) (fun H => ?_)
 refine p_ 3 Y (AtL.q Y (l_ 0 Y) (p_ 3 Y (ld hT H Y Y Y Y fun _ H => p_ 8 Y ?_)))
 refine AtL.splitB (t := 35) H Y (fun H => ?_) (fun H => ?_)
 refine p_ 3 Y (AtL.q Y (l_ 0 Y) (p_ 6 Y (AtL.nil ?_)))
 exact pkz (HK1 _ () _ (H _ rfl)) [5, 1, 2, 3] [0] Y
 refine p_ 7 Y (AtL.nil ?_)
 exact pkz (HK1 _ () _ H) [5, 1, 2, 3] [0] Y
 refine p_ 17 Y (AtL.nil ?_)
 exact pkz (HK1 _ () _ H) [5, 1, 2, 3] [0] Y
 refine p_ 15 Y (AtL.q Y (l_ 0 Y) (p_ 4 Y ?_))
 refine AtL.splitB (t := 27) H Y (fun H => ?_) (fun H => ?_)
 refine p_ 3 Y (AtL.q Y (l_ 0 Y) (p_ 3 Y (ld hT H Y Y Y Y fun _ H => p_ 8 Y ?_)))
 refine AtL.splitB (t := 35) H Y (fun H => ?_) (fun H => ?_)
 refine p_ 3 Y (AtL.q Y (l_ 0 Y) (p_ 6 Y (AtL.nil ?_)))
 exact pkz (HK1 _ () _ (H _ rfl)) [5, 1, 2, 3] [0] Y
 refine p_ 7 Y (AtL.nil ?_)
 exact pkz (HK1 _ () _ H) [5, 1, 2, 3] [0] Y
 refine p_ 17 Y (AtL.nil ?_)
 exact pkz (HK1 _ () _ H) [5, 1, 2, 3] [0] Y
end
def yt : N := { f := 138, ps := [.sh (true, [.int .i64, .int .i64, .int .i64, .bool, .sl, .sl, .bool, .sl, .sl]), .sh (false, [.adr]), .sh (false, [.adr])], rs := [(false, [.bool])], sem := i6, ok := fun x w m S hr H => cast (by kernel_rfl) (rY x.1 x.2.1 x.2.2.1 w m hr S H), call := Tryz.call138 }
def oC : List N := yt :: aeh
def z0 : C := ⟨T, oC, ⟨[2], [], [], [], [], [(4, 138, 2)]⟩, 8⟩
def aaj : N := M z0 hT 72 [.sh (true, [.int .i64, .int .i64, .int .i64, .bool, .sl, .sl, .bool, .sl, .sl]), .sh (false, [.adr])] [(false, [.bool])] oW Tryz.func72 rfl Tryz.ntmps72 Tryz.call72 (fun _ => by kernel_rfl) fun _ _ _ => by kernel_rfl
def qQ : List N := aaj :: oC
def eF : C := ⟨T, qQ, ⟨[], [5, 8], [], [(3, [(8, 3)], [])], [], [(11, 72, 1)]⟩, 19⟩
def eI : N := M eF hT 141 [.sh (false, [.sl]), .fn 72 [] 1] [(false, [.int .i64])] aU Tryz.func141 rfl Tryz.ntmps141 Tryz.call141 (fun _ => by kernel_rfl) fun _ _ _ => by kernel_rfl
def bX : List N := eI :: qQ
def dJ : C := ⟨T, bX, ⟨[], [], [], [], [], []⟩, 9⟩
def dF : N := M dJ hT 71 [.sh (false, [.sl]), .fn 72 [] 1] [(false, [.bool])] ar Tryz.func71 rfl Tryz.ntmps71 Tryz.call71 (fun _ => by kernel_rfl) fun _ _ _ => by kernel_rfl
def bM : List N := dF :: bX
def afm : C := ⟨T, bM, ⟨[], [1, 3, 4, 5, 11, 16, 31], [], [(3, [(7, 4)], []), (6, [(4, 0), (5, 0)], []), (7, [(2, 4)], [])], [], []⟩, 38⟩
def afe : N := M afm hT 25 [.sh (true, [.int .i64, .int .i64, .sl, .sl, .sl, .sl, .sl])] [(false, [.bool])] mB Tryz.func25 rfl Tryz.ntmps25 Tryz.call25 (fun _ => by kernel_rfl) fun _ _ _ => by kernel_rfl
def xk : List N := afe :: bM
def aaa : C := ⟨T, xk, ⟨[], [7, 16], [], [(1, [(4, 4)], [])], [], []⟩, 26⟩
def zz : N := M aaa hT 104 [.sh (false, [.ptr]), .sh (false, [.int .i64])] [(false, [.bool])] eS Tryz.func104 rfl Tryz.ntmps104 Tryz.call104 (fun _ => by kernel_rfl) fun _ _ _ => by kernel_rfl
theorem mG (s0 : (Option Addr)) (lit : Int) : Lf Tryz.prog 104 [Value.pointer s0, Value.int .i64 lit] Value.bool (eS s0 lit) := fun w m hr S H => cast (by kernel_rfl) (zz.ok (s0, lit, ()) w m S hr H)
def qG : List N := zz :: xk
def zT : C := ⟨T, qG, ⟨[], [], [], [], [], []⟩, 8⟩
def aas : N := M zT hT 143 [.sh (false, [.int .i64])] [(false, [.int .i64])] aM Tryz.func143 rfl Tryz.ntmps143 Tryz.call143 (fun _ => by kernel_rfl) fun _ _ _ => by kernel_rfl
theorem cL (lit : Int) : Lf Tryz.prog 143 [Value.int .i64 lit] (Value.int .i64) (aM lit) := fun w m hr S H => cast (by kernel_rfl) (aas.ok (lit, ()) w m S hr H)
def zD : List N := aas :: qG
section
set_option maxHeartbeats 40000000
attribute [local irreducible] Calls AtL AtC AtE AtD Eff Quiet1 Stg qAt QAll eAt EAll ru Code.wp
theorem wi (s0 : (Option Addr)) (lits : Sl) : Lf Tryz.prog 75 [Value.pointer s0, Sl.toV lits] Value.bool (jB s0 lits) := by
 refine Lf.go Tryz.func75 Tryz.ntmps75 Y Y [0, 1] Y fun w m S H => ?_
 unfold jB at H
 refine sR (p_ 1 Y (ng (sR (AtL.e Y (EffX.newM Y H) ?_))))
 rintro _ _ ⟨v, h0, rfl, rfl, H⟩
 refine p_ 1 Y (ng (AtC.seq (sR (p_ 3 Y (ng (AtC.block ?_))))))
 refine AtC.loopM (fun (s0u1 : Int) => [(11, Value.int .i64 s0u1)]) (fun (s0u1 : Int) => []) [0, 1, 5, 9, 10] [11, 0, 1, 5, 9, 10] [] [] H Y Y Y (by decide) Y (fun Kp1 s0u1 h1 H Q1 HK1 => ?_)
 refine sR (p_ 1 Y (ng (AtC.seq ?_)))
 refine AtC.condB H Y (fun H => ?_) (fun H => ?_)
 refine AtC.skip (tg (AtC.seq (AtC.block (sR (ix hT H Y Y Y Y Y Y fun _ H => ld hT H Y Y Y Y fun _ H => p_ 1 Y ?_)))))
 refine ng (AtC.seq ?_)
 refine AtC.joinSeq (β := Unit) (fun (t0 : Bool) (bb : Unit) => [(24, Value.bool t0)]) (fun (t0 : Bool) (bb : Unit) => []) [0, 1, 5, 7, 9, 10, 11] [] H Y Y (fun t0 bb h2 H => ?_) (fun J4 H HK4 => ?_)
 refine AtC.condB H Y (fun H => ?_) (fun H => ?_)
 refine sR (p_ 1 Y (ng (AtC.ret (AtE.then_r (AtE.blk_r (AtE.then_r (AtE.then_r ?_)))))))
 refine AtE.blk_r (AtE.then_r ?_)
 exact r1 4 Y Y Y H
 refine AtC.skip (tg (AtC.region (p_ 2 Y (lc (cL _) H Tryz.call143 Y fun v_5 h5 H => AtL.e Y (EffX.setM hT Y Y Y Y Y Y H) ?_))))
 rintro _ _ ⟨h6, rfl, H⟩
 refine AtL.nil (AtE.blk_n (tg (AtC.region (p_ 2 Y (AtL.nil ?_)))))
 exact pkz (HK1 _ _ H) [11, 0, 1, 5, 9, 10] [] Y
 refine AtC.region (p_ 2 Y (lc (mG _ _) H Tryz.call104 Y fun v_2 h3 H => p_ 2 Y ?_))
 refine AtL.splitB (t := 19) H Y (fun H => ?_) (fun H => ?_)
 refine p_ 5 Y (AtL.nil ?_)
 exact pkz (HK4 _ () _ H) [24, 0, 1, 5, 7, 9, 10, 11] [] Y
 refine p_ 5 Y (lc (cL _) H Tryz.call143 Y fun v_3 h4 H => p_ 1 Y ?_)
 obtain ⟨fm4, v_4, hm4, hn4, H⟩ := H
 refine AtL.q Y (Quiet1.lookM1 (key := v_3) hT Y Y Y (by kernel_rfl) Y Y hm4 hn4) (p_ 1 Y (AtL.nil ?_))
 exact pkz (HK4 _ () _ H) [24, 0, 1, 5, 7, 9, 10, 11] [] Y
 refine AtC.exit (AtE.then_x (AtE.then_x (AtE.blk_hit (tg (sR (p_ 4 Y (ng ?_)))))))
 refine AtC.ret ?_
 exact r1 4 Y Y Y H
end
def abD : N := { f := 75, ps := [.sh (false, [.ptr]), .sh (false, [.sl])], rs := [(false, [.bool])], sem := jB, ok := fun x w m S hr H => cast (by kernel_rfl) (wi x.1 x.2.1 w m hr S H), call := Tryz.call75 }
def sV : List N := abD :: zD
def tS : C := ⟨T, sV, ⟨[2], [2, 7], [], [(1, [(3, 4)], [])], [], []⟩, 13⟩
def uy : N := M tS hT 74 [.sh (true, [.sl, .bool, .int .i64]), .sh (false, [.adr])] [(false, [.bool])] oQ Tryz.func74 rfl Tryz.ntmps74 Tryz.call74 (fun _ => by kernel_rfl) fun _ _ _ => by kernel_rfl
def mC : List N := uy :: sV
def dc : C := ⟨T, mC, ⟨[], [5, 8], [], [(3, [(8, 3)], [])], [], [(11, 74, 1)]⟩, 19⟩
def cY : N := M dc hT 142 [.sh (false, [.sl]), .fn 74 [] 1] [(false, [.int .i64])] aJ Tryz.func142 rfl Tryz.ntmps142 Tryz.call142 (fun _ => by kernel_rfl) fun _ _ _ => by kernel_rfl
def bg : List N := cY :: mC
def cI : C := ⟨T, bg, ⟨[], [], [], [], [], []⟩, 9⟩
def cJ : N := M cI hT 73 [.sh (false, [.sl]), .fn 74 [] 1] [(false, [.bool])] aA Tryz.func73 rfl Tryz.ntmps73 Tryz.call73 (fun _ => by kernel_rfl) fun _ _ _ => by kernel_rfl
def aY : List N := cJ :: bg
def fY : C := ⟨T, aY, ⟨[], [5, 8], [], [(3, [(8, 3)], [])], [], []⟩, 19⟩
def fW : N := M fY hT 136 [.sh (false, [.sl]), .fn 76 [] 0] [(false, [.int .i64])] bF Tryz.func136 rfl Tryz.ntmps136 Tryz.call136 (fun _ => by kernel_rfl) fun _ _ _ => by kernel_rfl
def cx : List N := fW :: aY
def fo : C := ⟨T, cx, ⟨[], [], [], [], [], []⟩, 9⟩
def fq : N := M fo hT 67 [.sh (false, [.sl]), .fn 76 [] 0] [(false, [.bool])] aK Tryz.func67 rfl Tryz.ntmps67 Tryz.call67 (fun _ => by kernel_rfl) fun _ _ _ => by kernel_rfl
def ce : List N := fq :: cx
def zG : C := ⟨T, ce, ⟨[], [], [], [], [], []⟩, 12⟩
def aau : N := M zG hT 144 [.sh (false, [.int .i64])] [(false, [.int .i64])] fh Tryz.func144 rfl Tryz.ntmps144 Tryz.call144 (fun _ => by kernel_rfl) fun _ _ _ => by kernel_rfl
theorem uF (lit : Int) : Lf Tryz.prog 144 [Value.int .i64 lit] (Value.int .i64) (fh lit) := fun w m hr S H => cast (by kernel_rfl) (aau.ok (lit, ()) w m S hr H)
def aai : List N := aau :: ce
section
set_option maxHeartbeats 40000000
attribute [local irreducible] Calls AtL AtC AtE AtD Eff Quiet1 Stg qAt QAll eAt EAll ru Code.wp
theorem rB (s0 : (Option Addr)) : Lf Tryz.prog 77 [Value.pointer s0] Value.bool (ia s0) := by
 refine Lf.go Tryz.func77 Tryz.ntmps77 Y Y [0] Y fun w m S H => ?_
 unfold ia at H
 refine sR (p_ 1 Y (ng (sR (AtL.e Y (EffX.newM Y H) ?_))))
 rintro _ _ ⟨v, h0, rfl, rfl, H⟩
 refine p_ 1 Y (ng (sR (p_ 1 Y (ng (AtC.seq (sR (p_ 1 Y ?_)))))))
 refine nk H Y Y Y fun _ H => p_ 1 Y (ld hT H Y Y Y Y fun _ H => p_ 2 Y (ng (AtC.block ?_)))
 refine AtC.loopM (fun (s0u1 : Int × Int) => [(4, Value.int .i64 s0u1.1), (19, Value.int .i64 s0u1.2)]) (fun (s0u1 : Int × Int) => []) [0, 3, 17, 18] [4, 19, 0, 3, 17, 18] [] [] H Y Y Y (by decide) Y (fun Kp3 s0u1 h1 H Q3 HK3 => ?_)
 refine sR (p_ 1 Y (ng (AtC.seq ?_)))
 refine AtC.condB H Y (fun H => ?_) (fun H => ?_)
 refine AtC.skip (tg (AtC.seq (AtC.block (sR (p_ 1 Y (ix hT H Y Y Y Y Y Y fun _ H => ld hT H Y Y Y Y fun _ H => ?_))))))
 refine p_ 2 Y (ng (sR (p_ 3 Y (ng (AtC.block ?_)))))
 refine AtC.loopM (fun (s0u2 : Int × Int) => [(4, Value.int .i64 s0u2.1), (26, Value.int .i64 s0u2.2)]) (fun (s0u2 : Int × Int) => []) [0, 3, 5, 17, 18, 19, 24, 25] [4, 26, 0, 3, 5, 17, 18, 19, 24, 25] [] [] H Y Y Y (by decide) Y (fun Kp6 s0u2 h2 H Q6 HK6 => ?_)
 refine sR (p_ 1 Y (ng (AtC.seq ?_)))
 refine AtC.condB H Y (fun H => ?_) (fun H => ?_)
 refine AtC.skip (tg (AtC.seq (AtC.block (sR (ix hT H Y Y Y Y Y Y fun _ H => ld hT H Y Y Y Y fun v_3 H => p_ 1 Y ?_)))))
 refine ng (AtC.seq ?_)
 refine AtC.joinSeq (β := Unit) (fun (t0 : Bool) (bb : Unit) => [(40, Value.bool t0)]) (fun (t0 : Bool) (bb : Unit) => []) [0, 3, 4, 5, 8, 17, 18, 19, 24, 25, 26] [] H Y Y (fun t0 bb h3 H => ?_) (fun J9 H HK9 => ?_)
 refine AtC.condB H Y (fun H => ?_) (fun H => ?_)
 refine sR (p_ 1 Y (ng (AtC.ret (AtE.then_r (AtE.blk_r (AtE.then_r (AtE.then_r ?_)))))))
 refine AtE.blk_r (AtE.blk_r (AtE.then_r (AtE.then_r (AtE.blk_r (AtE.then_r ?_)))))
 exact r1 2 Y Y Y H
 refine AtC.skip (tg ?_)
 obtain ⟨fm11, v_5, hm11, hn11, H⟩ := H
 apply AtC.seqS [6, 8] (rl [([], 7), ([6], 2)]) [[], [], [], [1, 2], [0, 1, 2, 3], (ra 5), [0, 1, 2, 3], [0, 1, 2, 3, 6], (ra 8)] hmix (by kernel_rfl) (nm 41 [_, _, _, _, _, _]) Y 2 Y
 refine Stg.go (ra 6) [6] Y Y (q_ Y (q_ Y (q_ Y (qq Y (Quiet1.buildA (cs := [_, _]) hT Y Y Y Y Y Y) Y (qq Y (Quiet1.lookM1P (key := (s0u1.2, v_3)) hT Y Y ⟨_, Y, Y, Y⟩ (by kernel_rfl) Y Y hm11 hn11) Y (q_ Y QAll.nil)))))) (eo Y (EffX.entryMP (key := (s0u1.2, v_3)) hT Y Y ⟨_, Y, Y, Y⟩ (by kernel_rfl) Y Y H) ?_)
 rintro _ _ ⟨en, h4, rfl, rfl, H⟩
 obtain ⟨hc12, H⟩ := H
 apply Stg.next [(47, _), (48, _)] Y Y
 refine Stg.go [4, 5, 7] [8] Y Y (qq Y (Quiet1.lookM1VP (key := (s0u1.2, v_3)) hT Y Y ⟨_, Y, Y, Y⟩ (by kernel_rfl) Y Y hc12) Y (q_ Y (q_ Y QAll.nil))) (eo Y (EffX.entrySP Y Y Y Y H) ?_)
 rintro _ _ ⟨h5, rfl, H⟩
 apply Stg.next [] Y Y
 refine Stg.fin [] Y Y QAll.nil (tg (AtC.region (p_ 3 Y (AtL.nil (AtE.blk_n (tg (AtC.region ?_)))))))
 refine p_ 2 Y (AtL.nil ?_)
 exact pkz (HK6 _ _ (H _ rfl)) [4, 26, 0, 3, 5, 17, 18, 19, 24, 25] [] Y
 refine AtC.region (p_ 3 Y ?_)
 refine AtL.splitB (t := 32) H Y (fun H => ?_) (fun H => ?_)
 refine p_ 8 Y (AtL.nil ?_)
 exact pkz (HK9 _ () _ H) [40, 0, 3, 4, 5, 8, 17, 18, 19, 24, 25, 26] [] Y
 refine p_ 5 Y (nk H Y Y Y fun _ H => p_ 3 Y (ld hT H Y Y Y Y fun _ H => p_ 5 Y (AtL.nil ?_)))
 exact pkz (HK9 _ () _ H) [40, 0, 3, 4, 5, 8, 17, 18, 19, 24, 25, 26] [] Y
 refine AtC.exit (AtE.then_x (AtE.then_x (AtE.blk_hit (AtE.blk_n (tg (AtC.region (p_ 2 Y ?_)))))))
 refine AtL.nil ?_
 exact pkz (HK3 _ _ H) [4, 19, 0, 3, 17, 18] [] Y
 refine AtC.exit (AtE.then_x (AtE.then_x (AtE.blk_hit (tg (AtC.seq (sR (p_ 1 Y ?_)))))))
 refine nk H Y Y Y fun _ H => p_ 1 Y (ld hT H Y Y Y Y fun _ H => p_ 2 Y (ng (AtC.block ?_)))
 refine AtC.loopM (fun (s0u3 : Int) => [(58, Value.int .i64 s0u3)]) (fun (s0u3 : Int) => []) [0, 3, 4, 56, 57] [58, 0, 3, 4, 56, 57] [] [] H Y Y Y (by decide) Y (fun Kp16 s0u3 h6 H Q16 HK16 => ?_)
 refine sR (p_ 1 Y (ng (AtC.seq ?_)))
 refine AtC.condB H Y (fun H => ?_) (fun H => ?_)
 refine AtC.skip (tg (AtC.seq (AtC.block (sR (p_ 1 Y (ix hT H Y Y Y Y Y Y fun _ H => lds hT H Y Y Y Y Y fun _ H => ?_))))))
 refine al hT [_, _, _] H Y Y Y fun b _ H => p_ 1 Y (sp hT 0 [(_, [_, _, _])] Y Y Y Y Y Y Y Y Y Y Y fun _ => ng (sR (p_ 1 Y (AtL.q Y (l_ 0 Y) ?_))))
 refine AtL.sl (hT := hT) H.self Y Y Y Y Y Y Y (fun h => by cases h <;> rfl) Y (fun v_8 H => ?_)
 refine p_ 2 Y (ng (AtC.block ?_))
 refine AtC.loopM (fun (s0u4 : Int) => [(67, Value.int .i64 s0u4)]) (fun (s0u4 : Int) => []) [0, 3, 4, 9, 56, 57, 58, 65, 66] [67, 0, 3, 4, 9, 56, 57, 58, 65, 66] [] [] H Y Y Y (by decide) Y (fun Kp20 s0u4 h8 H Q20 HK20 => ?_)
 refine sR (p_ 1 Y (ng (AtC.seq ?_)))
 refine AtC.condB H Y (fun H => ?_) (fun H => ?_)
 refine AtC.skip (tg (AtC.seq (AtC.block (sR (ix hT H Y Y Y Y Y Y fun _ H => ld hT H Y Y Y Y fun _ H => p_ 1 Y ?_)))))
 refine ng (sR (p_ 2 Y (lc (uF _) H Tryz.call144 Y fun v_10 h9 H => p_ 1 Y (AtL.q Y (Quiet1.buildA (cs := [_, _]) hT Y Y Y Y Y Y) ?_))))
 obtain ⟨fm22, v_11, hm22, hn22, H⟩ := H
 refine AtL.q Y (Quiet1.lookM1P (key := (v_10, s0u3)) hT Y Y ⟨_, Y, Y, Y⟩ (by kernel_rfl) Y Y hm22 hn22) (p_ 1 Y (ng ?_))
 refine AtC.condB H Y (fun H => ?_) (fun H => ?_)
 refine sR (p_ 1 Y (ng (AtC.ret (AtE.blk_r (AtE.then_r (AtE.then_r (AtE.blk_r ?_)))))))
 refine AtE.blk_r (AtE.then_r (AtE.then_r (AtE.blk_r (AtE.then_r ?_))))
 exact r1 2 Y Y Y H
 refine AtC.skip (AtE.blk_n (tg (AtC.region (p_ 2 Y (AtL.nil ?_)))))
 exact pkz (HK20 _ _ H) [67, 0, 3, 4, 9, 56, 57, 58, 65, 66] [] Y
 refine AtC.exit (AtE.then_x (AtE.then_x (AtE.blk_hit (AtE.blk_n (tg (AtC.region (p_ 2 Y ?_)))))))
 refine AtL.nil ?_
 exact pkz (HK16 _ _ H) [58, 0, 3, 4, 56, 57] [] Y
 refine AtC.exit (AtE.then_x (AtE.then_x (AtE.blk_hit (tg (sR (p_ 2 Y (nk H Y Y Y fun _ H => ?_)))))))
 refine p_ 1 Y (ld hT H Y Y Y Y fun _ H => p_ 4 Y (ng (AtC.ret ?_)))
 exact r1 2 Y Y Y H
end
def vo : N := { f := 77, ps := [.sh (false, [.ptr])], rs := [(false, [.bool])], sem := ia, ok := fun x w m S hr H => cast (by kernel_rfl) (rB x.1 w m hr S H), call := Tryz.call77 }
def om : List N := vo :: aai
def v8 : C := ⟨T, om, ⟨[], [], [], [], [], []⟩, 11⟩
def vV : N := M v8 hT 145 [.sh (false, [.ptr]), .sh (false, [.int .i64])] [(false, [.int .i64])] jH Tryz.func145 rfl Tryz.ntmps145 Tryz.call145 (fun _ => by kernel_rfl) fun _ _ _ => by kernel_rfl
theorem rF (s0 : (Option Addr)) (lit : Int) : Lf Tryz.prog 145 [Value.pointer s0, Value.int .i64 lit] (Value.int .i64) (jH s0 lit) := fun w m hr S H => cast (by kernel_rfl) (vV.ok (s0, lit, ()) w m S hr H)
def oj : List N := vV :: om
def abe : C := ⟨T, oj, ⟨[], [], [], [], [], []⟩, 6⟩
def abp : N := M abe hT 146 [.sh (false, [.int .i64])] [(false, [.int .i64])] gG Tryz.func146 rfl Tryz.ntmps146 Tryz.call146 (fun _ => by kernel_rfl) fun _ _ _ => by kernel_rfl
theorem vq (lit : Int) : Lf Tryz.prog 146 [Value.int .i64 lit] (Value.int .i64) (gG lit) := fun w m hr S H => cast (by kernel_rfl) (abp.ok (lit, ()) w m S hr H)
def sJ : List N := abp :: oj
def ot : C := ⟨T, sJ, ⟨[], [5, 8], [], [(3, [(8, 3)], [])], [], []⟩, 19⟩
def oo : N := M ot hT 148 [.sh (false, [.sl]), .sh (false, [.int .i64])] [(false, [.int .i64])] cB Tryz.func148 rfl Tryz.ntmps148 Tryz.call148 (fun _ => by kernel_rfl) fun _ _ _ => by kernel_rfl
def jr : List N := oo :: sJ
def mj : C := ⟨T, jr, ⟨[], [], [], [], [], []⟩, 9⟩
def mb : N := M mj hT 101 [.sh (false, [.sl]), .sh (false, [.int .i64])] [(false, [.bool])] aC Tryz.func101 rfl Tryz.ntmps101 Tryz.call101 (fun _ => by kernel_rfl) fun _ _ _ => by kernel_rfl
theorem kL (s0 : Sl) (v : Int) : Lf Tryz.prog 101 [Sl.toV s0, Value.int .i64 v] Value.bool (aC s0 v) := fun w m hr S H => cast (by kernel_rfl) (mb.ok (s0, v, ()) w m S hr H)
def ib : List N := mb :: jr
def zB : C := ⟨T, ib, ⟨[], [2], [], [], [], []⟩, 17⟩
def aae : N := M zB hT 105 [.sh (true, [.sl, .sl, .sl, .sl, .sl, .sl, .sl, .int .i64]), .sh (false, [.int .i64])] [(false, [.int .i64])] gH Tryz.func105 rfl Tryz.ntmps105 Tryz.call105 (fun _ => by kernel_rfl) fun _ _ _ => by kernel_rfl
theorem uE (s0 : Sl × Sl × Sl × Sl × Sl × Sl × Sl × Int) (lit : Int) : Lf Tryz.prog 105 [Value.agg (ag s0).toArray, Value.int .i64 lit] (Value.int .i64) (gH s0 lit) := fun w m hr S H => cast (by kernel_rfl) (aae.ok (s0, lit, ()) w m S hr H)
def zY : List N := aae :: ib
section
set_option maxHeartbeats 40000000
attribute [local irreducible] Calls AtL AtC AtE AtD Eff Quiet1 Stg qAt QAll eAt EAll ru Code.wp
theorem kx (s0 : (Option Addr)) (place : (Option Nat)) : Lf Tryz.prog 147 [Value.pointer s0, Value.map place] Value.bool (gI s0 place) := by
 refine Lf.go Tryz.func147 Tryz.ntmps147 Y Y [0, 1] Y fun w m S H => ?_
 unfold gI at H
 refine sR (p_ 1 Y (ng (AtC.seq (sR (p_ 1 Y (nk H Y Y Y fun _ H => p_ 1 Y ?_))))))
 refine ld hT H Y Y Y Y fun _ H => p_ 2 Y (ng (AtC.block ?_))
 refine AtC.loopM (fun (s0u1 : Int) => [(17, Value.int .i64 s0u1)]) (fun (s0u1 : Int) => []) [0, 1, 15, 16] [17, 0, 1, 15, 16] [] [] H Y Y Y (by decide) Y (fun Kp3 s0u1 h0 H Q3 HK3 => ?_)
 refine sR (p_ 1 Y (ng (AtC.seq ?_)))
 refine AtC.condB H Y (fun H => ?_) (fun H => ?_)
 refine AtC.skip (tg ?_)
 refine AtC.joinSeq (β := Unit) (fun (t0 : Unit) (bb : Unit) => []) (fun (t0 : Unit) (bb : Unit) => []) [0, 1, 15, 16, 17] [] H Y Y (fun t0 bb h1 H => ?_) (fun J4 H HK4 => ?_)
 refine AtC.region (p_ 2 Y (AtL.nil ?_))
 exact pkz (HK3 _ _ H) [17, 0, 1, 15, 16] [] Y
 refine AtC.block (sR (p_ 1 Y (ix hT H Y Y Y Y Y Y fun _ H => ld hT H Y Y Y Y fun _ H => p_ 2 Y (ng ?_))))
 obtain ⟨a_2, hc6, H⟩ := H
 obtain ⟨v_2, hc7, H⟩ := H
 apply AtC.seqS [5] (rl [([], 6), ([5], 3)]) [[], [0], [0, 1], [0, 1, 2], [], [4], (ra 6), (ra 7), (ra 8)] hmix (by kernel_rfl) (nm 22 [_, _, _, _, _]) Y 1 Y
 refine Stg.go (ra 5) [5] Y Y (q_ Y (qq Y (Quiet1.nilChk Y Y hc6) Y (q_ Y (qq Y (Quiet1.load hT Y Y Y hc7) Y (q_ Y QAll.nil))))) (ec (cL _) H Tryz.call143 Y fun v_3 h2 H => ?_)
 obtain ⟨hc8, H⟩ := H
 obtain ⟨a_3_, hc9, hd9, H⟩ := H
 obtain ⟨v_4, hc10, H⟩ := H
 apply Stg.next [(27, _), (28, _), (29, _), (7, _)] Y Y
 refine Stg.fin [0, 1, 2, 3, 6, 7, 8] Y Y (q_ Y (qq Y (Quiet1.nilChk Y Y hc6) Y (q_ Y (qq Y (Quiet1.load hT Y Y Y hc8) Y (qq Y (Quiet1.idxS hT Y Y Y Y Y hc9 hd9) Y (qq Y (Quiet1.load hT Y Y Y hc10) Y (q_ Y QAll.nil))))))) (tg (AtC.seq (sR (p_ 2 Y (ng ?_)))))
 refine AtC.condB H Y (fun H => ?_) (fun H => ?_)
 refine AtC.exit (AtE.then_x (AtE.blk_hit ?_))
 exact pkz (HK4 _ () _ H) [0, 1, 15, 16, 17] [] Y
 refine AtC.skip (tg (AtC.seq ?_))
 refine AtC.joinSeq (β := Unit) (fun (t0u1 : Bool) (bb_1 : Unit) => [(55, Value.bool t0u1)]) (fun (t0u1 : Bool) (bb_1 : Unit) => []) [0, 1, 5, 6, 7, 15, 16, 17] [] H Y Y (fun t0u1 bb_1 h3 H => ?_) (fun J12 H HK12 => ?_)
 refine AtC.condB H Y (fun H => ?_) (fun H => ?_)
 refine sR (p_ 1 Y (ng (AtC.ret (AtE.then_r (AtE.blk_r (AtE.then_r (AtE.then_r ?_)))))))
 refine AtE.blk_r (AtE.then_r ?_)
 exact r1 4 Y Y Y H
 refine AtC.skip (tg (sR (p_ 1 Y (nk H Y Y Y fun _ H => p_ 1 Y (ld hT H Y Y Y Y fun _ H => p_ 1 Y ?_)))))
 refine ix hT H Y Y Y Y Y Y fun _ H => p_ 1 Y (ld hT H Y Y Y Y fun _ H => p_ 2 Y (ng (AtC.block ?_)))
 refine AtC.loopM (fun (s0u2 : Int) => [(65, Value.int .i64 s0u2)]) (fun (s0u2 : Int) => []) [0, 1, 5, 6, 15, 16, 17, 63, 64] [65, 0, 1, 5, 6, 15, 16, 17, 63, 64] [] [] H Y Y Y (by decide) Y (fun Kp23 s0u2 h5 H Q23 HK23 => ?_)
 refine sR (p_ 1 Y (ng (AtC.seq ?_)))
 refine AtC.condB H Y (fun H => ?_) (fun H => ?_)
 refine AtC.skip (tg (AtC.seq (AtC.block (sR (ix hT H Y Y Y Y Y Y fun _ H => ld hT H Y Y Y Y fun _ H => p_ 1 Y ?_)))))
 refine ng (sR (p_ 2 Y (lc (cL _) H Tryz.call143 Y fun v_12 h6 H => ?_)))
 obtain ⟨fm25, v_13, hm25, hn25, H⟩ := H
 refine AtL.q Y (Quiet1.lookM (key := v_12) hT Y Y Y (by kernel_rfl) Y Y hm25 hn25) (p_ 5 Y (ng ?_))
 refine AtC.joinSeq (β := Unit) (fun (t0u2 : Bool) (bb_2 : Unit) => [(95, Value.bool t0u2)]) (fun (t0u2 : Bool) (bb_2 : Unit) => []) [0, 1, 5, 6, 15, 16, 17, 63, 64, 65] [] H Y Y (fun t0u2 bb_2 h7 H => ?_) (fun J27 H HK27 => ?_)
 refine AtC.condB H Y (fun H => ?_) (fun H => ?_)
 refine sR (p_ 1 Y (ng (AtC.ret (AtE.blk_r (AtE.then_r (AtE.then_r (AtE.blk_r ?_)))))))
 refine AtE.blk_r (AtE.then_r (AtE.then_r (AtE.blk_r (AtE.then_r ?_))))
 exact r1 4 Y Y Y H
 refine AtC.skip (AtE.blk_n (tg (AtC.region (p_ 2 Y (AtL.nil ?_)))))
 exact pkz (HK23 _ _ H) [65, 0, 1, 5, 6, 15, 16, 17, 63, 64] [] Y
 refine AtC.region (p_ 4 Y ?_)
 refine AtL.splitB (t := 79) H Y (fun H => ?_) (fun H => ?_)
 refine p_ 6 Y ?_
 refine AtL.splitB (t := 82) H Y (fun H => ?_) (fun H => ?_)
 refine p_ 16 Y (AtL.nil ?_)
 exact pkz (HK27 _ () _ H) [95, 0, 1, 5, 6, 15, 16, 17, 63, 64, 65] [] Y
 refine p_ 10 Y ?_
 refine AtL.splitB (t := 87) H Y (fun H => ?_) (fun H => ?_)
 refine p_ 9 Y (AtL.nil ?_)
 exact pkz (HK27 _ () _ H) [95, 0, 1, 5, 6, 15, 16, 17, 63, 64, 65] [] Y
 refine p_ 3 Y (nk H Y Y Y fun _ H => p_ 1 Y (lds hT H Y Y Y Y Y fun _ H => p_ 3 Y (lc (uE _ _) H Tryz.call105 Y fun v_15 h8 H => p_ 5 Y (AtL.nil ?_))))
 exact pkz (HK27 _ () _ H) [95, 0, 1, 5, 6, 15, 16, 17, 63, 64, 65] [] Y
 refine p_ 3 Y (AtL.noU Y Y Y Y (AtL.noU Y Y Y Y (AtL.noU Y Y Y Y (p_ 2 Y (AtL.noU Y Y Y Y (AtL.noU Y Y Y Y (AtL.noU Y Y Y Y ?_)))))))
 refine AtL.noU Y Y Y Y (AtL.noU Y Y Y Y (AtL.noU Y Y Y Y (p_ 2 Y (AtL.nil ?_))))
 exact pkz (HK27 _ () _ H) [95, 0, 1, 5, 6, 15, 16, 17, 63, 64, 65] [] Y
 refine AtC.exit (AtE.then_x (AtE.then_x (AtE.blk_hit (AtE.blk_n ?_))))
 exact pkz (HK4 _ () _ H) [0, 1, 15, 16, 17] [] Y
 refine AtC.region (p_ 3 Y ?_)
 refine AtL.splitB (t := 34) H Y (fun H => ?_) (fun H => ?_)
 refine p_ 21 Y (AtL.nil ?_)
 exact pkz (HK12 _ () _ H) [55, 0, 1, 5, 6, 7, 15, 16, 17] [] Y
 refine p_ 5 Y (nk H Y Y Y fun _ H => p_ 3 Y (ld hT H Y Y Y Y fun _ H => p_ 6 Y ?_))
 refine AtL.splitB (t := 43) H Y (fun H => ?_) (fun H => ?_)
 refine p_ 12 Y (AtL.nil ?_)
 exact pkz (HK12 _ () _ H) [55, 0, 1, 5, 6, 7, 15, 16, 17] [] Y
 refine p_ 3 Y (nk H Y Y Y fun _ H => p_ 3 Y (ld hT H Y Y Y Y fun _ H => p_ 3 Y (ix hT H Y Y Y Y Y Y fun _ H => p_ 3 Y (ld hT H Y Y Y Y fun _ H => ?_))))
 refine p_ 3 Y (lc (kL _ _) H Tryz.call101 Y fun v_8 h4 H => p_ 3 Y (AtL.nil ?_))
 exact pkz (HK12 _ () _ H) [55, 0, 1, 5, 6, 7, 15, 16, 17] [] Y
 refine AtC.exit (AtE.then_x (AtE.then_x (AtE.blk_hit (tg (sR (p_ 1 Y (ng ?_)))))))
 refine AtC.ret ?_
 exact r1 4 Y Y Y H
end
def uA : N := { f := 147, ps := [.sh (false, [.ptr]), .sh (false, [.map])], rs := [(false, [.bool])], sem := gI, ok := fun x w m S hr H => cast (by kernel_rfl) (kx x.1 x.2.1 w m hr S H), call := Tryz.call147 }
def um : List N := uA :: zY
section
set_option maxHeartbeats 40000000
attribute [local irreducible] Calls AtL AtC AtE AtD Eff Quiet1 Stg qAt QAll eAt EAll ru Code.wp
theorem vS (s0 : (Option Addr)) : Lf Tryz.prog 78 [Value.pointer s0] Value.bool (kS s0) := by
 refine Lf.go Tryz.func78 Tryz.ntmps78 Y Y [0] Y fun w m S H => ?_
 unfold kS at H
 refine sR (p_ 1 Y (ng (sR (AtL.e Y (EffX.newM Y H) ?_))))
 rintro _ _ ⟨v, h0, rfl, rfl, H⟩
 refine p_ 1 Y (ng (sR (p_ 1 Y (ng (AtC.seq (sR (p_ 1 Y ?_)))))))
 refine nk H Y Y Y fun _ H => p_ 1 Y (ld hT H Y Y Y Y fun _ H => p_ 2 Y (ng (AtC.block ?_)))
 refine AtC.loopM (fun (s0u1 : Int × Int) => [(4, Value.int .i64 s0u1.1), (18, Value.int .i64 s0u1.2)]) (fun (s0u1 : Int × Int) => []) [0, 3, 16, 17] [4, 18, 0, 3, 16, 17] [] [] H Y Y Y (by decide) Y (fun Kp3 s0u1 h1 H Q3 HK3 => ?_)
 refine sR (p_ 1 Y (ng (AtC.seq ?_)))
 refine AtC.condB H Y (fun H => ?_) (fun H => ?_)
 refine AtC.skip (tg (AtC.seq (AtC.block (sR (p_ 1 Y (ix hT H Y Y Y Y Y Y fun _ H => ld hT H Y Y Y Y fun _ H => ?_))))))
 refine p_ 2 Y (ng (AtC.seq (AtC.block ?_)))
 refine AtC.loopM (fun (s0u2 : Int) => [(4, Value.int .i64 s0u2)]) (fun (s0u2 : Int) => []) [0, 3, 5, 6, 16, 17, 18] [4, 0, 3, 5, 6, 16, 17, 18] [] [] H Y Y Y (by decide) Y (fun Kp6 s0u2 h2 H Q6 HK6 => ?_)
 refine AtC.seq ?_
 refine AtC.joinSeq (β := Unit) (fun (t0 : Bool) (bb : Unit) => [(40, Value.bool t0)]) (fun (t0 : Bool) (bb : Unit) => []) [0, 3, 4, 5, 6, 16, 17, 18] [] H Y Y (fun t0 bb h3 H => ?_) (fun J7 H HK7 => ?_)
 refine AtC.condB H Y (fun H => ?_) (fun H => ?_)
 refine AtC.skip (tg (AtC.block (AtC.region (p_ 3 Y (AtL.nil (AtE.blk_n ?_))))))
 exact pkz (HK6 _ _ (H _ rfl)) [4, 0, 3, 5, 6, 16, 17, 18] [] Y
 refine AtC.exit (AtE.then_x (AtE.then_x (AtE.blk_hit (tg (sR (p_ 3 Y (lc (rF _ _) H Tryz.call145 Y fun v_6 h4 H => ?_)))))))
 obtain ⟨fm13, v_7, hm13, hn13, H⟩ := H
 refine AtL.q Y (Quiet1.lookM (key := v_6) hT Y Y Y (by kernel_rfl) Y Y hm13 hn13) (p_ 5 Y (ng (AtC.seq ?_)))
 refine AtC.joinSeq (β := Unit) (fun (t0u1 : Bool) (bb_1 : Unit) => [(82, Value.bool t0u1)]) (fun (t0u1 : Bool) (bb_1 : Unit) => []) [0, 3, 4, 5, 6, 16, 17, 18] [] H Y Y (fun t0u1 bb_1 h5 H => ?_) (fun J15 H HK15 => ?_)
 refine AtC.condB H Y (fun H => ?_) (fun H => ?_)
 refine sR (p_ 1 Y (ng (AtC.ret (AtE.then_r (AtE.blk_r (AtE.then_r (AtE.then_r ?_)))))))
 refine AtE.blk_r (AtE.then_r ?_)
 exact r1 2 Y Y Y H
 refine AtC.skip (tg (AtC.region (p_ 2 Y (lc (cL _) H Tryz.call143 Y fun v_16 h10 H => p_ 1 Y (AtL.e Y (EffX.setM hT Y Y Y Y Y Y H) ?_)))))
 rintro _ _ ⟨h11, rfl, H⟩
 refine AtL.nil (AtE.blk_n (tg (AtC.region (p_ 2 Y (AtL.nil ?_)))))
 exact pkz (HK3 _ _ H) [4, 18, 0, 3, 16, 17] [] Y
 apply AtC.stages [2, 13, 17, 26] (rl [([], 3), ([2], 11), ([2, 13], 2), ([2], 1), ([2, 13], 1), ([2, 13, 17], 9), ([2, 13, 17, 26], 2), ([2, 13, 17], 1), ([2, 13, 17, 26], 2)]) [[], [], [0, 1], [0, 1, 2], [0, 1, 2, 3], (ra 5), (ra 6), (ra 7), (ra 8), (ra 9), (ra 10), (ra 11), (ra 8), (ra 8 ++ [12]), (ra 14), (ra 15), (ra 8), (ra 8 ++ [12, 13, 16]), (ra 18), (ra 19), (ra 20), (ra 21), (ra 22), (ra 23), (ra 24), (ra 21), (ra 21 ++ [25]), (ra 27), (ra 28), (ra 21), (ra 30), (ra 31)] hmix (by kernel_rfl) [(51, _), (52, _)] Y 4 Y
 refine Stg.go [0, 1] [2] Y Y (q_ Y (q_ Y QAll.nil)) (ec (mG _ _) H Tryz.call104 Y fun v_8 h6 H => ?_)
 rcases iteB.cases H with ⟨hb15, H⟩ | ⟨hb15, H⟩
 apply Stg.next (nm 53 [_, _, _, _, _, _, _, _, _, _, _] ++ [(67, _)]) Y Y
 refine Stg.known (t := 55) Y hb15 (Stg.go [3, 4, 5, 6, 7, 8, 9, 10, 11, 12, 16] [13] Y Y (q_ Y (QAll.cons (QOp.pk hT Y Y Y Y hb15 Y) (qn Y Y Y Y (by decide) Y Y (q_ Y (q_ Y (qn Y Y Y Y (by decide) Y Y (qn Y Y Y Y (by decide) Y Y (qn Y Y Y Y (by decide) Y Y (qn Y Y Y Y (by decide) Y Y (qn Y Y Y Y (by decide) Y Y (qn Y Y Y Y (by decide) Y Y QAll.nil))))))))))) ?_)
 refine EAll.cons ?_ EAll.nil
 refine EOp.no Y Y Y Y (by decide) Y ?_
 apply Stg.next (nm 64 [_, _, _]) Y Y
 refine Stg.go [8, 9, 10, 11, 14, 15, 16] [17] Y Y (qn Y Y Y Y (by decide) Y Y (qn Y Y Y Y (by decide) Y Y (qn Y Y Y Y (by decide) Y Y (qn Y Y Y Y (by decide) Y Y (qn Y Y Y Y (by decide) Y Y (qn Y Y Y Y (by decide) Y Y (qn Y Y Y Y (by decide) Y Y QAll.nil))))))) ?_
 refine EAll.cons ?_ EAll.nil
 refine EOp.no Y Y Y Y (by decide) Y ?_
 apply Stg.next (nm 68 [_, _, _, _, _, _, _, _, _] ++ [(80, _)]) Y Y
 refine Stg.go [8, 9, 10, 11, 14, 15, 18, 19, 20, 21, 22, 23, 24, 25, 29] [26] Y Y (qn Y Y Y Y (by decide) Y Y (qn Y Y Y Y (by decide) Y Y (qn Y Y Y Y (by decide) Y Y (qn Y Y Y Y (by decide) Y Y (qn Y Y Y Y (by decide) Y Y (qn Y Y Y Y (by decide) Y Y (qn Y Y Y Y (by decide) Y Y (q_ Y (q_ Y (qn Y Y Y Y (by decide) Y Y (qn Y Y Y Y (by decide) Y Y (qn Y Y Y Y (by decide) Y Y (qn Y Y Y Y (by decide) Y Y (qn Y Y Y Y (by decide) Y Y (qn Y Y Y Y (by decide) Y Y QAll.nil))))))))))))))) ?_
 refine EAll.cons ?_ EAll.nil
 refine EOp.no Y Y Y Y (by decide) Y ?_
 apply Stg.next [(77, _), (78, _), (79, _), (81, _), (82, _)] Y Y
 refine Stg.fin [21, 22, 23, 24, 27, 28, 29, 30, 31] Y Y (qn Y Y Y Y (by decide) Y Y (qn Y Y Y Y (by decide) Y Y (qn Y Y Y Y (by decide) Y Y (qn Y Y Y Y (by decide) Y Y (qn Y Y Y Y (by decide) Y Y (qn Y Y Y Y (by decide) Y Y (qn Y Y Y Y (by decide) Y Y (qn Y Y Y Y (by decide) Y Y (q_ Y QAll.nil))))))))) ?_
 exact pkz (HK15 _ () _ H) [82, 0, 3, 4, 5, 6, 16, 17, 18] [] Y
 rcases iteB.cases H with ⟨hb16, H⟩ | ⟨hb16, H⟩
 apply Stg.next (nm 53 [_, _, _, _, _, _, _, _, _, _, _] ++ [(67, _)]) Y Y
 refine Stg.known (t := 55) Y hb15 (Stg.known (t := 58) Y hb16 (Stg.go [3, 4, 5, 6, 7, 8, 9, 10, 11, 12, 16] [13] Y Y (q_ Y (QAll.cons (QOp.pk hT Y Y Y Y hb15 Y) (QAll.cons (QOp.yp hT Y Y Y Y Y Y Y) (q_ Y (QAll.cons (QOp.pk hT Y Y Y Y hb16 Y) (qn Y Y Y Y (by decide) Y Y (qn Y Y Y Y (by decide) Y Y (qn Y Y Y Y (by decide) Y Y (qn Y Y Y Y (by decide) Y Y (qn Y Y Y Y (by decide) Y Y (qn Y Y Y Y (by decide) Y Y QAll.nil))))))))))) ?_))
 refine EAll.cons ?_ EAll.nil
 refine EOp.no Y Y Y Y (by decide) Y ?_
 apply Stg.next (nm 64 [_, _, _]) Y Y
 refine Stg.go [8, 9, 10, 11, 14, 15, 16] [17] Y Y (qn Y Y Y Y (by decide) Y Y (qn Y Y Y Y (by decide) Y Y (qn Y Y Y Y (by decide) Y Y (qn Y Y Y Y (by decide) Y Y (qn Y Y Y Y (by decide) Y Y (qn Y Y Y Y (by decide) Y Y (qn Y Y Y Y (by decide) Y Y QAll.nil))))))) ?_
 refine EAll.cons ?_ EAll.nil
 refine EOp.no Y Y Y Y (by decide) Y ?_
 apply Stg.next (nm 68 [_, _, _, _, _, _, _, _, _] ++ [(80, _)]) Y Y
 refine Stg.go [8, 9, 10, 11, 14, 15, 18, 19, 20, 21, 22, 23, 24, 25, 29] [26] Y Y (qn Y Y Y Y (by decide) Y Y (qn Y Y Y Y (by decide) Y Y (qn Y Y Y Y (by decide) Y Y (qn Y Y Y Y (by decide) Y Y (qn Y Y Y Y (by decide) Y Y (qn Y Y Y Y (by decide) Y Y (qn Y Y Y Y (by decide) Y Y (q_ Y (q_ Y (qn Y Y Y Y (by decide) Y Y (qn Y Y Y Y (by decide) Y Y (qn Y Y Y Y (by decide) Y Y (qn Y Y Y Y (by decide) Y Y (qn Y Y Y Y (by decide) Y Y (qn Y Y Y Y (by decide) Y Y QAll.nil))))))))))))))) ?_
 refine EAll.cons ?_ EAll.nil
 refine EOp.no Y Y Y Y (by decide) Y ?_
 apply Stg.next [(77, _), (78, _), (79, _), (81, _), (82, _)] Y Y
 refine Stg.fin [21, 22, 23, 24, 27, 28, 29, 30, 31] Y Y (qn Y Y Y Y (by decide) Y Y (qn Y Y Y Y (by decide) Y Y (qn Y Y Y Y (by decide) Y Y (qn Y Y Y Y (by decide) Y Y (qn Y Y Y Y (by decide) Y Y (qn Y Y Y Y (by decide) Y Y (qn Y Y Y Y (by decide) Y Y (qn Y Y Y Y (by decide) Y Y (q_ Y QAll.nil))))))))) ?_
 exact pkz (HK15 _ () _ H) [82, 0, 3, 4, 5, 6, 16, 17, 18] [] Y
 obtain ⟨a_5, hc17, H⟩ := H
 obtain ⟨v_9, hc18, H⟩ := H
 apply Stg.next (nm 53 [_, _, _, _, _, _, _, _, _, _, _] ++ [(67, _)]) Y Y
 refine Stg.known (t := 55) Y hb15 (Stg.known (t := 58) Y hb16 (Stg.go [3, 4, 5, 6, 7, 8, 9, 10, 11, 12, 16] [13] Y Y (q_ Y (QAll.cons (QOp.pk hT Y Y Y Y hb15 Y) (QAll.cons (QOp.yp hT Y Y Y Y Y Y Y) (q_ Y (QAll.cons (QOp.pk hT Y Y Y Y hb16 Y) (QAll.cons (QOp.yp hT Y Y Y Y Y Y Y) (QAll.cons (QOp.y Y Y Y Y (Quiet1.nilChk Y Y hc17) Y Y) (QAll.cons (QOp.yp hT Y Y Y Y Y Y Y) (QAll.cons (QOp.y Y Y Y Y (Quiet1.load hT Y Y Y hc18) Y Y) (QAll.cons (QOp.yp hT Y Y Y Y Y Y Y) (QAll.cons (QOp.yp hT Y Y Y Y Y Y Y) QAll.nil))))))))))) ?_))
 refine EAll.cons ?_ EAll.nil
 refine EOp.y Y Y Y Y Y (cl (fun h => aM _ h _) H Y Tryz.call143 Y (fun w m hr hw => cL _ w m hr _ hw)) ?_
 rintro _ _ ⟨v_10, h7, rfl, rfl, H⟩
 obtain ⟨hc19, H⟩ := H
 obtain ⟨a_6_, hc20, hd20, H⟩ := H
 obtain ⟨v_11, hc21, H⟩ := H
 apply Stg.next (nm 64 [_, _, _]) Y Y
 refine Stg.go [8, 9, 10, 11, 14, 15, 16] [17] Y Y (QAll.cons (QOp.yp hT Y Y Y Y Y Y Y) (QAll.cons (QOp.y Y Y Y Y (Quiet1.nilChk Y Y hc17) Y Y) (QAll.cons (QOp.yp hT Y Y Y Y Y Y Y) (QAll.cons (QOp.y Y Y Y Y (Quiet1.load hT Y Y Y hc19) Y Y) (QAll.cons (QOp.y Y Y Y Y (Quiet1.idxS hT Y Y Y Y Y hc20 hd20) Y Y) (QAll.cons (QOp.y Y Y Y Y (Quiet1.load hT Y Y Y hc21) Y Y) (QAll.cons (QOp.yp hT Y Y Y Y Y Y Y) QAll.nil))))))) ?_
 refine EAll.cons ?_ EAll.nil
 refine EOp.y Y Y Y Y Y (cl (fun h => gG _ h _) H Y Tryz.call146 Y (fun w m hr hw => vq _ w m hr _ hw)) ?_
 rintro _ _ ⟨v_12, h8, rfl, rfl, H⟩
 obtain ⟨hc22, H⟩ := H
 obtain ⟨hc23, H⟩ := H
 rcases iteB.cases H with ⟨hb24, H⟩ | ⟨hb24, H⟩
 apply Stg.next (nm 68 [_, _, _, _, _, _, _, _, _] ++ [(80, _)]) Y Y
 refine Stg.known (t := 71) Y hb24 (Stg.go [8, 9, 10, 11, 14, 15, 18, 19, 20, 21, 22, 23, 24, 25, 29] [26] Y Y (QAll.cons (QOp.yp hT Y Y Y Y Y Y Y) (QAll.cons (QOp.y Y Y Y Y (Quiet1.nilChk Y Y hc17) Y Y) (QAll.cons (QOp.yp hT Y Y Y Y Y Y Y) (QAll.cons (QOp.y Y Y Y Y (Quiet1.load hT Y Y Y hc22) Y Y) (QAll.cons (QOp.y Y Y Y Y (Quiet1.idxS hT Y Y Y Y Y hc20 hd20) Y Y) (QAll.cons (QOp.y Y Y Y Y (Quiet1.load hT Y Y Y hc23) Y Y) (QAll.cons (QOp.yp hT Y Y Y Y Y Y Y) (q_ Y (QAll.cons (QOp.pk hT Y Y Y Y hb24 Y) (qn Y Y Y Y (by decide) Y Y (qn Y Y Y Y (by decide) Y Y (qn Y Y Y Y (by decide) Y Y (qn Y Y Y Y (by decide) Y Y (qn Y Y Y Y (by decide) Y Y (qn Y Y Y Y (by decide) Y Y QAll.nil))))))))))))))) ?_)
 refine EAll.cons ?_ EAll.nil
 refine EOp.no Y Y Y Y (by decide) Y ?_
 apply Stg.next [(77, _), (78, _), (79, _), (81, _), (82, _)] Y Y
 refine Stg.fin [21, 22, 23, 24, 27, 28, 29, 30, 31] Y Y (qn Y Y Y Y (by decide) Y Y (qn Y Y Y Y (by decide) Y Y (qn Y Y Y Y (by decide) Y Y (qn Y Y Y Y (by decide) Y Y (qn Y Y Y Y (by decide) Y Y (qn Y Y Y Y (by decide) Y Y (qn Y Y Y Y (by decide) Y Y (qn Y Y Y Y (by decide) Y Y (q_ Y QAll.nil))))))))) ?_
 exact pkz (HK15 _ () _ H) [82, 0, 3, 4, 5, 6, 16, 17, 18] [] Y
 obtain ⟨a_7, hc25, H⟩ := H
 obtain ⟨v_13, hc26, H⟩ := H
 apply Stg.next (nm 68 [_, _, _, _, _, _, _, _, _] ++ [(80, _)]) Y Y
 refine Stg.known (t := 71) Y hb24 (Stg.go [8, 9, 10, 11, 14, 15, 18, 19, 20, 21, 22, 23, 24, 25, 29] [26] Y Y (QAll.cons (QOp.yp hT Y Y Y Y Y Y Y) (QAll.cons (QOp.y Y Y Y Y (Quiet1.nilChk Y Y hc17) Y Y) (QAll.cons (QOp.yp hT Y Y Y Y Y Y Y) (QAll.cons (QOp.y Y Y Y Y (Quiet1.load hT Y Y Y hc22) Y Y) (QAll.cons (QOp.y Y Y Y Y (Quiet1.idxS hT Y Y Y Y Y hc20 hd20) Y Y) (QAll.cons (QOp.y Y Y Y Y (Quiet1.load hT Y Y Y hc23) Y Y) (QAll.cons (QOp.yp hT Y Y Y Y Y Y Y) (q_ Y (QAll.cons (QOp.pk hT Y Y Y Y hb24 Y) (QAll.cons (QOp.yp hT Y Y Y Y Y Y Y) (QAll.cons (QOp.y Y Y Y Y (Quiet1.nilChk Y Y hc25) Y Y) (QAll.cons (QOp.yp hT Y Y Y Y Y Y Y) (QAll.cons (QOp.y Y Y Y Y (Quiet1.load hT Y Y Y hc26) Y Y) (QAll.cons (QOp.yp hT Y Y Y Y Y Y Y) (QAll.cons (QOp.yp hT Y Y Y Y Y Y Y) QAll.nil))))))))))))))) ?_)
 refine EAll.cons ?_ EAll.nil
 refine EOp.y Y Y Y Y Y (cl (fun h => aM _ h _) H Y Tryz.call143 Y (fun w m hr hw => cL _ w m hr _ hw)) ?_
 rintro _ _ ⟨v_14, h9, rfl, rfl, H⟩
 obtain ⟨hc27, H⟩ := H
 obtain ⟨a_8_, hc28, hd28, H⟩ := H
 obtain ⟨v_15, hc29, H⟩ := H
 apply Stg.next [(77, _), (78, _), (79, _), (81, _), (82, _)] Y Y
 refine Stg.fin [21, 22, 23, 24, 27, 28, 29, 30, 31] Y Y (QAll.cons (QOp.yp hT Y Y Y Y Y Y Y) (QAll.cons (QOp.y Y Y Y Y (Quiet1.nilChk Y Y hc25) Y Y) (QAll.cons (QOp.yp hT Y Y Y Y Y Y Y) (QAll.cons (QOp.y Y Y Y Y (Quiet1.load hT Y Y Y hc27) Y Y) (QAll.cons (QOp.y Y Y Y Y (Quiet1.idxS hT Y Y Y Y Y hc28 hd28) Y Y) (QAll.cons (QOp.y Y Y Y Y (Quiet1.load hT Y Y Y hc29) Y Y) (QAll.cons (QOp.yp hT Y Y Y Y Y Y Y) (QAll.cons (QOp.yp hT Y Y Y Y Y Y Y) (q_ Y QAll.nil))))))))) ?_
 exact pkz (HK15 _ () _ H) [82, 0, 3, 4, 5, 6, 16, 17, 18] [] Y
 refine AtC.region (p_ 2 Y (nk H Y Y Y fun _ H => p_ 1 Y (ld hT H Y Y Y Y fun _ H => p_ 3 Y ?_)))
 refine AtL.splitB (t := 30) H Y (fun H => ?_) (fun H => ?_)
 refine p_ 3 Y (nk H Y Y Y fun _ H => p_ 3 Y (ld hT H Y Y Y Y fun _ H => p_ 3 Y (ix hT H Y Y Y Y Y Y fun _ H => p_ 1 Y (ld hT H Y Y Y Y fun _ H => ?_))))
 refine p_ 5 Y (AtL.nil ?_)
 exact pkz (HK7 _ () _ H) [40, 0, 3, 4, 5, 6, 16, 17, 18] [] Y
 refine p_ 10 Y (AtL.nil ?_)
 exact pkz (HK7 _ () _ H) [40, 0, 3, 4, 5, 6, 16, 17, 18] [] Y
 refine AtC.exit (AtE.then_x (AtE.then_x (AtE.blk_hit (tg (AtC.seq (sR (p_ 1 Y ?_)))))))
 refine nk H Y Y Y fun _ H => p_ 1 Y (ld hT H Y Y Y Y fun _ H => p_ 2 Y (ng (AtC.block ?_)))
 refine AtC.loopM (fun (s0u3 : Int) => [(93, Value.int .i64 s0u3)]) (fun (s0u3 : Int) => []) [0, 3, 92] [93, 0, 3, 92] [] [] H Y Y Y (by decide) Y (fun Kp33 s0u3 h12 H Q33 HK33 => ?_)
 refine sR (p_ 1 Y (ng (AtC.seq ?_)))
 refine AtC.condB H Y (fun H => ?_) (fun H => ?_)
 refine AtC.skip (tg (AtC.seq (AtC.block (sR (p_ 2 Y (ng (sR ?_)))))))
 refine p_ 2 Y ?_
 obtain ⟨fm33, v_18, hm33, hn33, H⟩ := H
 refine AtL.q Y (Quiet1.lookM (key := s0u3) hT Y Y Y (by kernel_rfl) Y Y hm33 hn33) (p_ 5 Y (ng ?_))
 refine AtC.joinSeq (β := Unit) (fun (t0u2 : Bool) (bb_2 : Unit) => [(133, Value.bool t0u2)]) (fun (t0u2 : Bool) (bb_2 : Unit) => []) [0, 3, 92, 93] [] H Y Y (fun t0u2 bb_2 h13 H => ?_) (fun J35 H HK35 => ?_)
 refine AtC.condB H Y (fun H => ?_) (fun H => ?_)
 refine sR (p_ 1 Y (ng (AtC.ret (AtE.blk_r (AtE.then_r (AtE.then_r (AtE.blk_r ?_)))))))
 refine AtE.then_r ?_
 exact r1 2 Y Y Y H
 refine AtC.skip (AtE.blk_n (tg (AtC.region (p_ 2 Y (AtL.nil ?_)))))
 exact pkz (HK33 _ _ H) [93, 0, 3, 92] [] Y
 refine AtC.region (p_ 3 Y ?_)
 refine AtL.splitB (t := 104) H Y (fun H => ?_) (fun H => ?_)
 refine p_ 3 Y (nk H Y Y Y fun _ H => p_ 3 Y (ld hT H Y Y Y Y fun _ H => p_ 3 Y (ix hT H Y Y Y Y Y Y fun _ H => p_ 1 Y (ld hT H Y Y Y Y fun _ H => ?_))))
 refine p_ 4 Y ?_
 refine AtL.splitB (t := 113) H Y (fun H => ?_) (fun H => ?_)
 refine p_ 23 Y (AtL.nil ?_)
 exact pkz (HK35 _ () _ H) [133, 0, 3, 92, 93] [] Y
 refine p_ 3 Y (nk H Y Y Y fun _ H => p_ 3 Y (ld hT H Y Y Y Y fun _ H => p_ 3 Y (ix hT H Y Y Y Y Y Y fun _ H => p_ 1 Y (ld hT H Y Y Y Y fun _ H => ?_))))
 refine p_ 6 Y ?_
 refine AtL.splitB (t := 123) H Y (fun H => ?_) (fun H => ?_)
 refine p_ 11 Y (AtL.nil ?_)
 exact pkz (HK35 _ () _ H) [133, 0, 3, 92, 93] [] Y
 refine p_ 3 Y (nk H Y Y Y fun _ H => p_ 3 Y (ld hT H Y Y Y Y fun _ H => p_ 3 Y (ix hT H Y Y Y Y Y Y fun _ H => p_ 1 Y (ld hT H Y Y Y Y fun _ H => ?_))))
 refine p_ 5 Y (AtL.nil ?_)
 exact pkz (HK35 _ () _ H) [133, 0, 3, 92, 93] [] Y
 refine p_ 9 Y (AtL.noU Y Y Y Y (AtL.noU Y Y Y Y (AtL.noU Y Y Y Y (AtL.noU Y Y Y Y (AtL.noU Y Y Y Y (AtL.noU Y Y Y Y (AtL.noU Y Y Y Y ?_)))))))
 refine AtL.noU Y Y Y Y (p_ 2 Y (AtL.noU Y Y Y Y (AtL.noU Y Y Y Y (AtL.noU Y Y Y Y (AtL.noU Y Y Y Y (AtL.noU Y Y Y Y (AtL.noU Y Y Y Y ?_)))))))
 refine AtL.noU Y Y Y Y (AtL.noU Y Y Y Y (p_ 2 Y (AtL.nil ?_)))
 exact pkz (HK35 _ () _ H) [133, 0, 3, 92, 93] [] Y
 refine AtC.exit (AtE.then_x (AtE.then_x (AtE.blk_hit (tg (sR (p_ 2 Y (lc (kx _ _) H Tryz.call147 Y fun v_25 h14 H => ?_)))))))
 refine p_ 1 Y (ng (AtC.ret ?_))
 exact r1 2 Y Y Y H
end
def aby : N := { f := 78, ps := [.sh (false, [.ptr])], rs := [(false, [.bool])], sem := kS, ok := fun x w m S hr H => cast (by kernel_rfl) (vS x.1 w m hr S H), call := Tryz.call78 }
def sO : List N := aby :: um
def yl : C := ⟨T, sO, ⟨[], [3, 4, 8, 10, 17, 26, 29, 42], [], [(3, [(10, 3)], []), (9, [(58, 4)], [])], [], []⟩, 60⟩
def zh : N := M yl hT 79 [.sh (false, [.ptr])] [(false, [.bool])] mY Tryz.func79 rfl Tryz.ntmps79 Tryz.call79 (fun _ => by kernel_rfl) fun _ _ _ => by kernel_rfl
def oF : List N := zh :: sO
def aal : C := ⟨T, oF, ⟨[], [1, 3, 13, 20, 27, 32, 44, 50, 53], [], [(3, [(39, 4)], []), (7, [(48, 4)], []), (10, [(2, 4)], [])], [], []⟩, 56⟩
def aac : N := M aal hT 26 [.sh (true, [.sl, .sl, .sl, .sl, .sl, .sl, .sl, .int .i64])] [(false, [.bool])] lH Tryz.func26 rfl Tryz.ntmps26 Tryz.call26 (fun _ => by kernel_rfl) fun _ _ _ => by kernel_rfl
def qL : List N := aac :: oF
def abf : C := ⟨T, qL, ⟨[], [7], [], [(1, [(4, 4)], [])], [], []⟩, 16⟩
def abZ : N := M abf hT 80 [.sh (false, [.ptr]), .sh (false, [.int .i64])] [(false, [.bool])] m6 Tryz.func80 rfl Tryz.ntmps80 Tryz.call80 (fun _ => by kernel_rfl) fun _ _ _ => by kernel_rfl
theorem wa (q : (Option Addr)) (v : Int) : Lf Tryz.prog 80 [Value.pointer q, Value.int .i64 v] Value.bool (m6 q v) := fun w m hr S H => cast (by kernel_rfl) (abZ.ok (q, v, ()) w m S hr H)
def rM : List N := abZ :: qL
def sH : C := ⟨T, rM, ⟨[3], [3, 7, 8, 9, 10], [], [], [], []⟩, 52⟩
def rU : N := M sH hT 81 [.sh (true, [.ptr]), .sh (false, [.int .i64]), .sh (false, [.int .i64])] [(false, [.bool])] il Tryz.func81 rfl Tryz.ntmps81 Tryz.call81 (fun _ => by kernel_rfl) fun _ _ _ => by kernel_rfl
theorem oE (r : (Option Addr)) (i : Int) (j : Int) : Lf Tryz.prog 81 [Value.agg (amK r).toArray, Value.int .i64 i, Value.int .i64 j] Value.bool (il r i j) := fun w m hr S H => cast (by kernel_rfl) (rU.ok (r, i, j, ()) w m S hr H)
def lV : List N := rU :: rM
def gj : C := ⟨T, lV, ⟨[], [5, 8], [], [(3, [(8, 3)], [])], [], []⟩, 19⟩
def gp : N := M gj hT 136 [.sh (false, [.sl]), .fn 82 [] 0] [(false, [.int .i64])] cP Tryz.func136 rfl Tryz.ntmps136 Tryz.call136 (fun _ => by kernel_rfl) fun _ _ _ => by kernel_rfl
def cC : List N := gp :: lV
def fx : C := ⟨T, cC, ⟨[], [], [], [], [], []⟩, 9⟩
def fz : N := M fx hT 67 [.sh (false, [.sl]), .fn 82 [] 0] [(false, [.bool])] aL Tryz.func67 rfl Tryz.ntmps67 Tryz.call67 (fun _ => by kernel_rfl) fun _ _ _ => by kernel_rfl
theorem ff (s0 : Sl) : Lf Tryz.prog 67 [Sl.toV s0, Value.func (.func 82) #[] #[]] Value.bool (aL s0) := fun w m hr S H => cast (by kernel_rfl) (fz.ok (s0, ()) w m S hr H)
def fE : List N := fz :: cC
section
set_option maxHeartbeats 40000000
attribute [local irreducible] Calls AtL AtC AtE AtD Eff Quiet1 Stg qAt QAll eAt EAll ru Code.wp
theorem vD (q : Sl × Sl) : Lf Tryz.prog 27 [Value.agg (akF q).toArray] Value.bool (jG q) := by
 refine Lf.go Tryz.func27 Tryz.ntmps27 Y Y [0] Y fun w m S H => ?_
 unfold jG at H
 refine sR (AtL.e Y (EffX.box (cs := [_, _]) Y Y Y H) ?_)
 rintro _ _ ⟨q_1, h0, rfl, rfl, H⟩
 refine p_ 1 Y (ng (sR (AtL.e Y (EffX.newM Y H) ?_)))
 rintro _ _ ⟨v, h1, rfl, rfl, H⟩
 refine p_ 1 Y (ng (AtC.seq (sR (p_ 1 Y (ld hT H Y Y Y Y fun _ H => p_ 2 Y (ng ?_))))))
 refine AtC.block ?_
 refine AtC.loopM (fun (s0 : Int) => [(10, Value.int .i64 s0)]) (fun (s0 : Int) => []) [1, 3, 8, 9] [10, 1, 3, 8, 9] [] [] H Y Y Y (by decide) Y (fun Kp2 s0 h2 H Q2 HK2 => ?_)
 refine sR (p_ 1 Y (ng (AtC.seq ?_)))
 refine AtC.condB H Y (fun H => ?_) (fun H => ?_)
 refine AtC.skip (tg (AtC.seq (AtC.block (sR (p_ 1 Y (ix hT H Y Y Y Y Y Y fun _ H => ld hT H Y Y Y Y fun v_2 H => ?_))))))
 refine p_ 2 Y (ng (AtC.seq ?_))
 refine AtC.joinSeq (β := Unit) (fun (t0 : Bool) (bb : Unit) => [(35, Value.bool t0)]) (fun (t0 : Bool) (bb : Unit) => []) [1, 3, 5, 8, 9, 10] [] H Y Y (fun t0 bb h3 H => ?_) (fun J5 H HK5 => ?_)
 refine AtC.condB H Y (fun H => ?_) (fun H => ?_)
 refine sR (p_ 1 Y (ng (AtC.ret (AtE.then_r (AtE.blk_r (AtE.then_r (AtE.then_r ?_)))))))
 refine AtE.blk_r (AtE.then_r ?_)
 exact r1 2 Y Y Y H
 refine AtC.skip (tg (AtC.region (p_ 2 Y (AtL.e Y (EffX.setM hT Y Y Y Y Y Y H) ?_))))
 rintro _ _ ⟨h6, rfl, H⟩
 refine AtL.nil (AtE.blk_n (tg (AtC.region (p_ 2 Y (AtL.nil ?_)))))
 exact pkz (HK2 _ _ H) [10, 1, 3, 8, 9] [] Y
 refine AtC.region (p_ 1 Y (lc (wa _ _) H Tryz.call80 Y fun v_3 h4 H => p_ 2 Y ?_))
 refine AtL.splitB (t := 18) H Y (fun H => ?_) (fun H => ?_)
 refine p_ 8 Y (AtL.noU Y Y Y Y (AtL.noU Y Y Y Y (AtL.noU Y Y Y Y (AtL.noU Y Y Y Y (AtL.noU Y Y Y Y (AtL.noU Y Y Y Y (AtL.noU Y Y Y Y ?_)))))))
 refine p_ 2 Y (AtL.nil ?_)
 exact pkz (HK5 _ () _ H) [35, 1, 3, 5, 8, 9, 10] [] Y
 refine p_ 5 Y ?_
 obtain ⟨fm5, v_4, hm5, hn5, H⟩ := H
 refine AtL.q Y (Quiet1.lookM1 (key := v_2) hT Y Y Y (by kernel_rfl) Y Y hm5 hn5) (p_ 2 Y ?_)
 refine AtL.splitB (t := 23) H Y (fun H => ?_) (fun H => ?_)
 refine p_ 3 Y (AtL.noU Y Y Y Y (AtL.noU Y Y Y Y (AtL.noU Y Y Y Y (AtL.noU Y Y Y Y (AtL.noU Y Y Y Y (AtL.noU Y Y Y Y (AtL.noU Y Y Y Y ?_)))))))
 refine p_ 2 Y (AtL.nil ?_)
 exact pkz (HK5 _ () _ H) [35, 1, 3, 5, 8, 9, 10] [] Y
 refine p_ 6 Y ?_
 refine AtL.splitB (t := 26) H Y (fun H => ?_) (fun H => ?_)
 refine p_ 1 Y (AtL.q Y (Quiet1.build (cs := [_]) hT Y Y Y Y Y Y) (p_ 9 Y (lc (oE _ _ _) H Tryz.call81 Y fun v_5 h5 H => p_ 5 Y (AtL.nil ?_))))
 exact pkz (HK5 _ () _ H) [35, 1, 3, 5, 8, 9, 10] [] Y
 refine p_ 10 Y (AtL.nil ?_)
 exact pkz (HK5 _ () _ H) [35, 1, 3, 5, 8, 9, 10] [] Y
 refine AtC.exit (AtE.then_x (AtE.then_x (AtE.blk_hit (tg (sR (p_ 1 Y (ld hT H Y Y Y Y fun _ H => ?_)))))))
 refine lc (ff _) H Tryz.call67 Y fun v_7 h7 H => p_ 2 Y (ng (AtC.ret ?_))
 exact r1 2 Y Y Y H
end
def abh : N := { f := 27, ps := [.sh (true, [.sl, .sl])], rs := [(false, [.bool])], sem := jG, ok := fun x w m S hr H => cast (by kernel_rfl) (vD x.1 w m hr S H), call := Tryz.call27 }
def tL : List N := abh :: fE
def abk : C := ⟨T, tL, ⟨[2], [], [], [], [], []⟩, 9⟩
def acd : N := M abk hT 83 [.sh (true, [.sl, .sl, .sl, .sl, .sl]), .sh (false, [.int .i64])] [(false, [.int .i64])] nD Tryz.func83 rfl Tryz.ntmps83 Tryz.call83 (fun _ => by kernel_rfl) fun _ _ _ => by kernel_rfl
def tm : List N := acd :: tL
def rR : C := ⟨T, tm, ⟨[1], [1, 6], [], [(1, [(2, 4)], [])], [], []⟩, 11⟩
def sN : N := M rR hT 84 [.sh (true, [.bool, .sl, .sl, .bool, .sl, .sl])] [(false, [.bool])] nU Tryz.func84 rfl Tryz.ntmps84 Tryz.call84 (fun _ => by kernel_rfl) fun _ _ _ => by kernel_rfl
def lQ : List N := sN :: tm
def sL : C := ⟨T, lQ, ⟨[2], [], [], [], [], [(4, 84, 0)]⟩, 8⟩
def tE : N := M sL hT 87 [.sh (true, [.bool, .sl, .sl, .bool, .sl, .sl]), .sh (false, [.adr])] [(false, [.bool])] im Tryz.func87 rfl Tryz.ntmps87 Tryz.call87 (fun _ => by kernel_rfl) fun _ _ _ => by kernel_rfl
def lY : List N := tE :: lQ
def dh : C := ⟨T, lY, ⟨[], [5, 8], [], [(3, [(8, 3)], [])], [], [(11, 87, 1)]⟩, 19⟩
def dj : N := M dh hT 154 [.sh (false, [.sl]), .fn 87 [] 1] [(false, [.int .i64])] bD Tryz.func154 rfl Tryz.ntmps154 Tryz.call154 (fun _ => by kernel_rfl) fun _ _ _ => by kernel_rfl
def bz : List N := dj :: lY
def cM : C := ⟨T, bz, ⟨[], [], [], [], [], []⟩, 9⟩
def cK : N := M cM hT 86 [.sh (false, [.sl]), .fn 87 [] 1] [(false, [.bool])] aE Tryz.func86 rfl Tryz.ntmps86 Tryz.call86 (fun _ => by kernel_rfl) fun _ _ _ => by kernel_rfl
def bf : List N := cK :: bz
def jA : C := ⟨T, bf, ⟨[], [0, 1], [], [(1, [], []), (4, [(0, 38)], [])], [], []⟩, 27⟩
def ju : N := M jA hT 156 [.sh (false, [.sl]), .sh (false, [.int .i64])] [(false, [.sl])] du Tryz.func156 rfl Tryz.ntmps156 Tryz.call156 (fun _ => by kernel_rfl) fun _ _ _ => by kernel_rfl
def fH : List N := ju :: bf
def jb : C := ⟨T, fH, ⟨[], [3, 6, 9, 11, 25, 27], [5, 8], [(4, [(3, 3), (11, 3)], []), (8, [(3, 3)], []), (16, [(6, 38), (27, 3)], [])], [], []⟩, 36⟩
def je : N := M jb hT 89 [.sh (false, [.sl])] [(false, [.sl])] cN Tryz.func89 rfl Tryz.ntmps89 Tryz.call89 (fun _ => by kernel_rfl) fun _ _ _ => by kernel_rfl
def eQ : List N := je :: fH
def afB : C := ⟨T, eQ, ⟨[2, 3], [2, 3, 5], [], [], [], []⟩, 19⟩
def aek : N := M afB hT 158 [.sh (true, [.bool, .sl, .sl, .bool, .sl, .sl]), .sh (true, [.bool, .sl, .sl, .bool, .sl, .sl])] [(false, [.int .i64])] te Tryz.func158 rfl Tryz.ntmps158 Tryz.call158 (fun _ => by kernel_rfl) fun _ _ _ => by kernel_rfl
def yT : List N := aek :: eQ
def zL : C := ⟨T, yT, ⟨[2, 3], [], [], [], [], []⟩, 9⟩
def zO : N := M zL hT 96 [.sh (true, [.bool, .sl, .sl, .bool, .sl, .sl]), .sh (true, [.bool, .sl, .sl, .bool, .sl, .sl])] [(false, [.bool])] lW Tryz.func96 rfl Tryz.ntmps96 Tryz.call96 (fun _ => by kernel_rfl) fun _ _ _ => by kernel_rfl
def q9 : List N := zO :: yT
def zX : C := ⟨T, q9, ⟨[1], [1, 10, 28], [], [(4, [(2, 4)], []), (5, [(2, 4)], [])], [], []⟩, 34⟩
def zu : N := M zX hT 91 [.sh (true, [.int .i64, .bool, .sl, .sl, .bool, .sl, .sl])] [(false, [.bool])] oX Tryz.func91 rfl Tryz.ntmps91 Tryz.call91 (fun _ => by kernel_rfl) fun _ _ _ => by kernel_rfl
def q8 : List N := zu :: q9
def sx : C := ⟨T, q8, ⟨[1], [], [], [], [], []⟩, 6⟩
def rN : N := M sx hT 90 [.sh (true, [.int .i64, .bool, .sl, .sl, .bool, .sl, .sl])] [(false, [.bool])] kg Tryz.func90 rfl Tryz.ntmps90 Tryz.call90 (fun _ => by kernel_rfl) fun _ _ _ => by kernel_rfl
def lU : List N := rN :: q8
def dz : C := ⟨T, lU, ⟨[], [5, 8], [], [(3, [(8, 3)], [])], [], [(11, 90, 0)]⟩, 19⟩
def dE : N := M dz hT 155 [.sh (false, [.sl]), .fn 90 [] 0] [(false, [.int .i64])] bS Tryz.func155 rfl Tryz.ntmps155 Tryz.call155 (fun _ => by kernel_rfl) fun _ _ _ => by kernel_rfl
def bE : List N := dE :: lU
def cZ : C := ⟨T, bE, ⟨[], [], [], [], [], []⟩, 9⟩
def dg : N := M cZ hT 88 [.sh (false, [.sl]), .fn 90 [] 0] [(false, [.bool])] aH Tryz.func88 rfl Tryz.ntmps88 Tryz.call88 (fun _ => by kernel_rfl) fun _ _ _ => by kernel_rfl
def bj : List N := dg :: bE
def sQ : C := ⟨T, bj, ⟨[3], [3, 9], [], [(1, [(4, 4)], [])], [], []⟩, 16⟩
def tB : N := M sQ hT 93 [.sh (true, [.int .i64, .bool, .sl, .sl]), .sh (false, [.adr]), .sh (false, [.adr])] [(false, [.bool])] kh Tryz.func93 rfl Tryz.ntmps93 Tryz.call93 (fun _ => by kernel_rfl) fun _ _ _ => by kernel_rfl
def lE : List N := tB :: bj
def dw : C := ⟨T, lE, ⟨[], [5, 8], [], [(3, [(8, 3)], [])], [], [(11, 93, 2)]⟩, 19⟩
def dD : N := M dw hT 157 [.sh (false, [.sl]), .fn 93 [] 2] [(false, [.int .i64])] bQ Tryz.func157 rfl Tryz.ntmps157 Tryz.call157 (fun _ => by kernel_rfl) fun _ _ _ => by kernel_rfl
def bC : List N := dD :: lE
def cS : C := ⟨T, bC, ⟨[], [], [], [], [], []⟩, 9⟩
def cW : N := M cS hT 95 [.sh (false, [.sl]), .fn 93 [] 2] [(false, [.bool])] aI Tryz.func95 rfl Tryz.ntmps95 Tryz.call95 (fun _ => by kernel_rfl) fun _ _ _ => by kernel_rfl
def bm : List N := cW :: bC
def aiG : C := ⟨T, bm, ⟨[], [], [], [], [], []⟩, 14⟩
def ah6 : N := M aiG hT 205 [.sh (false, [.sl]), .sh (false, [.int .i64])] [(false, [.int .u32])] xX Tryz.func205 rfl Tryz.ntmps205 Tryz.call205 (fun _ => by kernel_rfl) fun _ _ _ => by kernel_rfl
def adC : List N := ah6 :: bm
def acF : C := ⟨T, adC, ⟨[], [0, 1, 4, 5, 6, 8, 10, 11, 16, 22, 38, 51, 68, 70], [7, 9], [(4, [(24, 4)], []), (11, [(5, 71), (10, 3)], []), (15, [(5, 71)], [])], [], []⟩, 81⟩
def adq : N := M acF hT 204 [.sh (false, [.sl]), .sh (false, [.sl])] [(false, [.sl]), (false, [.sl])] qf Tryz.func204 rfl Tryz.ntmps204 Tryz.call204 (fun _ => by kernel_rfl) fun _ _ _ => by kernel_rfl
def uX : List N := adq :: adC
def xV : C := ⟨T, uX, ⟨[], [8, 9, 14], [], [], [], []⟩, 32⟩
def wZ : N := M xV hT 203 [.sh (false, [.ptr]), .sh (false, [.sl]), .sh (false, [.sl])] [(false, [.sl]), (false, [.sl])] gY Tryz.func203 rfl Tryz.ntmps203 Tryz.call203 (fun _ => by kernel_rfl) fun _ _ _ => by kernel_rfl
def oG : List N := wZ :: uX
def acL : C := ⟨T, oG, ⟨[6], [1, 2, 6, 7, 8, 14, 21], [], [(5, [(2, 71)], [])], [], []⟩, 39⟩
def adN : N := M acL hT 197 [.sh (false, [.bool]), .sh (false, [.sl]), .sh (false, [.sl])] [(true, [.bool, .sl, .sl])] mM Tryz.func197 rfl Tryz.ntmps197 Tryz.call197 (fun _ => by kernel_rfl) fun _ _ _ => by kernel_rfl
def uQ : List N := adN :: oG
def vT : C := ⟨T, uQ, ⟨[], [], [], [], [], []⟩, 7⟩
def wg : N := M vT hT 195 [.sh (false, [.ptr])] [(false, [.bool])] gt Tryz.func195 rfl Tryz.ntmps195 Tryz.call195 (fun _ => by kernel_rfl) fun _ _ _ => by kernel_rfl
def nT : List N := wg :: uQ
def ad7 : C := ⟨T, nT, ⟨[3, 4], [3, 4], [], [], [], []⟩, 18⟩
def afF : N := M ad7 hT 196 [.sh (false, [.ptr]), .sh (true, [.bool, .sl, .sl])] [(true, [.bool, .sl, .sl])] oM Tryz.func196 rfl Tryz.ntmps196 Tryz.call196 (fun _ => by kernel_rfl) fun _ _ _ => by kernel_rfl
def w0 : List N := afF :: nT
def ae3 : C := ⟨T, w0, ⟨[4, 5, 6], [4, 5, 7], [], [], [], []⟩, 34⟩
def afv : N := M ae3 hT 177 [.sh (false, [.ptr]), .sh (true, [.bool, .sl, .sl]), .sh (true, [.bool, .sl, .sl])] [(true, [.bool, .sl, .sl])] pO Tryz.func177 rfl Tryz.ntmps177 Tryz.call177 (fun _ => by kernel_rfl) fun _ _ _ => by kernel_rfl
def yO : List N := afv :: w0
def nP : C := ⟨T, yO, ⟨[6, 7, 8, 9], [6, 7, 8, 9], [], [(1, [], [(9, 77)])], [], []⟩, 29⟩
def mX : N := M nP hT 175 [.sh (false, [.ptr]), .fn 177 [] 0, .sh (true, [.bool, .sl, .sl, .bool, .sl, .sl]), .sh (true, [.bool, .sl, .sl, .bool, .sl, .sl])] [(true, [.bool, .sl, .sl, .bool, .sl, .sl])] jR Tryz.func175 rfl Tryz.ntmps175 Tryz.call175 (fun _ => by kernel_rfl) fun _ _ _ => by kernel_rfl
def jg : List N := mX :: yO
def abT : C := ⟨T, jg, ⟨[4, 5, 6], [4], [], [], [], []⟩, 13⟩
def abS : N := M abT hT 160 [.sh (false, [.ptr]), .sh (true, [.bool, .sl, .sl]), .sh (true, [.bool, .sl, .sl, .bool, .sl, .sl])] [(true, [.bool, .sl, .sl, .bool, .sl, .sl])] rz Tryz.func160 rfl Tryz.ntmps160 Tryz.call160 (fun _ => by kernel_rfl) fun _ _ _ => by kernel_rfl
def sX : List N := abS :: jg
def ad4 : C := ⟨T, sX, ⟨[4, 5, 6, 7], [4, 5, 7, 10], [], [], [], []⟩, 27⟩
def afo : N := M ad4 hT 176 [.sh (false, [.ptr]), .sh (true, [.bool, .sl, .sl]), .sh (true, [.bool, .sl, .sl])] [(true, [.bool, .sl, .sl])] oY Tryz.func176 rfl Tryz.ntmps176 Tryz.call176 (fun _ => by kernel_rfl) fun _ _ _ => by kernel_rfl
def yL : List N := afo :: sX
def nJ : C := ⟨T, yL, ⟨[6, 7, 8, 9], [6, 7, 8, 9], [], [(1, [], [(9, 77)])], [], []⟩, 29⟩
def nB : N := M nJ hT 175 [.sh (false, [.ptr]), .fn 176 [] 0, .sh (true, [.bool, .sl, .sl, .bool, .sl, .sl]), .sh (true, [.bool, .sl, .sl, .bool, .sl, .sl])] [(true, [.bool, .sl, .sl, .bool, .sl, .sl])] jU Tryz.func175 rfl Tryz.ntmps175 Tryz.call175 (fun _ => by kernel_rfl) fun _ _ _ => by kernel_rfl
def ji : List N := nB :: yL
def aeg : C := ⟨T, ji, ⟨[4, 5, 6], [], [], [], [], []⟩, 11⟩
def aeU : N := M aeg hT 159 [.sh (false, [.ptr]), .sh (true, [.bool, .sl, .sl, .bool, .sl, .sl]), .sh (true, [.bool, .sl, .sl, .bool, .sl, .sl])] [(true, [.bool, .sl, .sl, .bool, .sl, .sl])] xT Tryz.func159 rfl Tryz.ntmps159 Tryz.call159 (fun _ => by kernel_rfl) fun _ _ _ => by kernel_rfl
def yq : List N := aeU :: ji
def xJ : C := ⟨T, yq, ⟨[4, 6, 8], [6, 8, 10, 12], [], [(3, [(12, 3)], [(6, 77)])], [], []⟩, 30⟩
def zd : N := M xJ hT 97 [.sh (false, [.ptr]), .sh (true, [.bool, .sl, .sl, .sl]), .sh (false, [.sl])] [(true, [.bool, .sl, .sl, .bool, .sl, .sl])] nA Tryz.func97 rfl Tryz.ntmps97 Tryz.call97 (fun _ => by kernel_rfl) fun _ _ _ => by kernel_rfl
def oD : List N := zd :: yq
def xc : C := ⟨T, oD, ⟨[9], [1, 3, 5, 6, 9, 21, 28, 36, 38, 45, 50, 62, 73, 75, 84, 90, 96], [4, 7, 8, 10], [(3, [(34, 4)], []), (8, [(38, 3)], []), (14, [(56, 4)], []), (19, [(70, 4)], []), (25, [(75, 3)], []), (32, [(113, 4)], [])], [], []⟩, 115⟩
def wF : N := M xc hT 28 [.sh (true, [.sl, .sl, .sl, .sl, .sl])] [(false, [.bool])] kM Tryz.func28 rfl Tryz.ntmps28 Tryz.call28 (fun _ => by kernel_rfl) fun _ _ _ => by kernel_rfl
def pY : List N := wF :: oD
def abi : C := ⟨T, pY, ⟨[1], [1, 11, 17, 27], [], [(4, [(2, 4)], []), (5, [(2, 4)], [])], [], []⟩, 33⟩
def abE : N := M abi hT 98 [.sh (true, [.int .i64, .bool, .sl, .sl, .bool, .sl, .sl])] [(false, [.bool])] nq Tryz.func98 rfl Tryz.ntmps98 Tryz.call98 (fun _ => by kernel_rfl) fun _ _ _ => by kernel_rfl
def sZ : List N := abE :: pY
def xQ : C := ⟨T, sZ, ⟨[1, 5], [1, 5, 7, 9, 16, 25, 31, 40], [3], [(4, [(3, 3), (9, 3)], []), (11, [(45, 4)], [])], [], []⟩, 49⟩
def ye : N := M xQ hT 29 [.sh (true, zH)] [(false, [.bool])] ja Tryz.func29 rfl Tryz.ntmps29 Tryz.call29 (fun _ => by kernel_rfl) fun _ _ _ => by kernel_rfl
def oB : List N := ye :: sZ
def afr : C := ⟨T, oB, ⟨[2], [], [], [], [], []⟩, 9⟩
def aes : N := M afr hT 99 [.sh (true, [.sl, .sl]), .sh (false, [.int .i64])] [(false, [.bool])] wG Tryz.func99 rfl Tryz.ntmps99 Tryz.call99 (fun _ => by kernel_rfl) fun _ _ _ => by kernel_rfl
def yH : List N := aes :: oB
def xI : C := ⟨T, yH, ⟨[1], [1, 7, 9, 16], [3, 4], [(3, [(9, 3)], []), (9, [(22, 4)], [])], [], []⟩, 24⟩
def xh : N := M xI hT 30 [.sh (true, zH)] [(false, [.bool])] jc Tryz.func30 rfl Tryz.ntmps30 Tryz.call30 (fun _ => by kernel_rfl) fun _ _ _ => by kernel_rfl
def pi : List N := xh :: yH
def aao : C := ⟨T, pi, ⟨[1], [1, 3, 21, 27, 33, 46, 54, 61, 69, 84, 93, 98, 105, 109], [4], [(3, [(16, 4)], []), (6, [(39, 4)], []), (9, [(80, 4)], []), (12, [(2, 4)], [])], [], []⟩, 123⟩
def zC : N := M aao hT 7 [.sh (true, zH)] [(false, [.bool])] fO Tryz.func7 rfl Tryz.ntmps7 Tryz.call7 (fun _ => by kernel_rfl) fun _ _ _ => by kernel_rfl
def qS : List N := zC :: pi
def aam : C := ⟨T, qS, ⟨[2, 4, 5], [2, 4, 5, 20, 26], [], [(8, [(30, 4)], [])], [], []⟩, 33⟩
def aaq : N := M aam hT 5 [.sh (false, [.sl])] [(true, zH), (false, [.int .i64])] eX Tryz.func5 rfl Tryz.ntmps5 Tryz.call5 (fun _ => by kernel_rfl) fun _ _ _ => by kernel_rfl
def qU : List N := aaq :: qS
def adb : C := ⟨T, qU, ⟨[2, 4], [3, 4, 10, 12, 14, 16, 22], [5], [(2, [], [(4, 34)]), (5, [(22, 3)], [])], [], []⟩, 31⟩
def adH : N := M adb hT 31 [.sh (false, [.int .i64])] [(true, [.sl, .sl, .sl, .sl, .sl, .sl, .sl, .int .i64])] jE Tryz.func31 rfl Tryz.ntmps31 Tryz.call31 (fun _ => by kernel_rfl) fun _ _ _ => by kernel_rfl
def uM : List N := adH :: qU
def afn : C := ⟨T, uM, ⟨[2, 3], [0, 3, 8, 12], [4], [(5, [(12, 3)], [(3, 36)])], [], []⟩, 23⟩
def afy : N := M afn hT 32 [.sh (false, [.int .i64])] [(true, [.sl, .sl])] fD Tryz.func32 rfl Tryz.ntmps32 Tryz.call32 (fun _ => by kernel_rfl) fun _ _ _ => by kernel_rfl
def xz : List N := afy :: uM
def jn : C := ⟨T, xz, ⟨[], [], [], [], [], []⟩, 8⟩
def jp : N := M jn hT 100 [.sh (false, [.sl])] [(false, [.sl])] fM Tryz.func100 rfl Tryz.ntmps100 Tryz.call100 (fun _ => by kernel_rfl) fun _ _ _ => by kernel_rfl
def fi : List N := jp :: xz
def abH : C := ⟨T, fi, ⟨[1, 2], [1, 2, 3, 14, 31, 33, 35], [4], [(4, [(14, 3)], [(2, 40)]), (11, [], [(2, 40)])], [], []⟩, 41⟩
def aca : N := M abH hT 33 [.sh (true, [.int .i64, .int .i64, .sl, .sl, .sl, .sl, .sl])] [(true, [.sl, .sl, .sl, .sl, .sl])] aX Tryz.func33 rfl Tryz.ntmps33 Tryz.call33 (fun _ => by kernel_rfl) fun _ _ _ => by kernel_rfl
def tw : List N := aca :: fi
def zI : C := ⟨T, tw, ⟨[], [2, 5, 6, 8], [3], [(3, [(2, 27), (8, 3)], []), (7, [(2, 27)], [])], [], []⟩, 26⟩
def zK : N := M zI hT 34 [.sh (false, [.sl])] [(false, [.sl]), (false, [.bool])] uH Tryz.func34 rfl Tryz.ntmps34 Tryz.call34 (fun _ => by kernel_rfl) fun _ _ _ => by kernel_rfl
def qK : List N := zK :: tw
def oq : C := ⟨T, qK, ⟨[], [], [], [], [], []⟩, 8⟩
def ou : N := M oq hT 102 [.sh (false, [.sl])] [(false, [.sl])] kw Tryz.func102 rfl Tryz.ntmps102 Tryz.call102 (fun _ => by kernel_rfl) fun _ _ _ => by kernel_rfl
def js : List N := ou :: qK
def ab6 : C := ⟨T, js, ⟨[], [5, 14, 16], [], [(1, [(16, 3)], []), (5, [], [])], [], []⟩, 39⟩
def acm : N := M ab6 hT 103 [.sh (false, [.ptr]), .sh (false, [.int .i64])] [] xH Tryz.func103 rfl Tryz.ntmps103 Tryz.call103 (fun _ => by kernel_rfl) fun _ _ _ => by kernel_rfl
def tu : List N := acm :: js
def adZ : C := ⟨T, tu, ⟨[], [8], [], [], [], []⟩, 35⟩
def acI : N := M adZ hT 35 [.sh (false, [.ptr]), .sh (false, [.sl]), .sh (false, [.bool])] [(false, [.int .i64]), (false, [.int .i64])] aa8 Tryz.func35 rfl Tryz.ntmps35 Tryz.call35 (fun _ => by kernel_rfl) fun _ _ _ => by kernel_rfl
def vh : List N := acI :: tu
def adO : C := ⟨T, vh, ⟨[], [6], [], [], [], []⟩, 45⟩
def ade : N := M adO hT 106 [.sh (false, [.ptr]), .sh (false, [.int .i64]), .sh (false, [.int .i64])] [] aaK Tryz.func106 rfl Tryz.ntmps106 Tryz.call106 (fun _ => by kernel_rfl) fun _ _ _ => by kernel_rfl
def uO : List N := ade :: vh
def abd : C := ⟨T, uO, ⟨[], [12], [], [(1, [], []), (2, [(7, 4)], [])], [], []⟩, 31⟩
def ab0 : N := M abd hT 36 [.sh (false, [.ptr]), .sh (false, [.int .i64]), .sh (false, [.int .i64])] [(false, [.bool])] ze Tryz.func36 rfl Tryz.ntmps36 Tryz.call36 (fun _ => by kernel_rfl) fun _ _ _ => by kernel_rfl
def rO : List N := ab0 :: uO
def adT : C := ⟨T, rO, ⟨[2, 3, 4], [2, 4, 6, 7, 10, 17, 34, 43, 45, 49, 76, 78], [9, 11, 13], [(2, [(21, 4)], []), (5, [(6, 0)], []), (9, [(7, 27), (45, 3)], []), (13, [(7, 27)], []), (24, [(78, 3)], []), (28, [], [])], [], []⟩, 89⟩
def acq : N := M adT hT 8 [.sh (true, [.int .i64, .int .i64, .sl, .sl, .sl, .sl, .sl]), .sh (true, [.int .i64, .int .i64])] [(true, zH), (false, [.int .i64])] mV Tryz.func8 rfl Tryz.ntmps8 Tryz.call8 (fun _ => by kernel_rfl) fun _ _ _ => by kernel_rfl
def uZ : List N := acq :: rO
def uj : C := ⟨T, uZ, ⟨[], [6], [], [(1, [(6, 3)], [])], [], []⟩, 27⟩
def uv : N := M uj hT 107 [.sh (false, [.ptr]), .sh (false, [.int .u64]), .sh (false, [.int .i64])] [] fJ Tryz.func107 rfl Tryz.ntmps107 Tryz.call107 (fun _ => by kernel_rfl) fun _ _ _ => by kernel_rfl
def mU : List N := uv :: uZ
def zU : C := ⟨T, mU, ⟨[], [], [], [], [], []⟩, 8⟩
def aag : N := M zU hT 37 [.sh (false, [.ptr]), .sh (false, [.int .i64])] [] ai Tryz.func37 rfl Tryz.ntmps37 Tryz.call37 (fun _ => by kernel_rfl) fun _ _ _ => by kernel_rfl
def qI : List N := aag :: mU
def yQ : C := ⟨T, qI, ⟨[], [], [4], [(1, [(4, 120)], [])], [], []⟩, 9⟩
def yN : N := M yQ hT 45 [.sh (false, [.ptr]), .sh (false, [.bool])] [] i9 Tryz.func45 rfl Tryz.ntmps45 Tryz.call45 (fun _ => by kernel_rfl) fun _ _ _ => by kernel_rfl
def oA : List N := yN :: qI
def yu : C := ⟨T, oA, ⟨[], [], [], [], [], []⟩, 8⟩
def yc : N := M yu hT 181 [.sh (false, [.ptr]), .sh (false, [.int .u32])] [] sB Tryz.func181 rfl Tryz.ntmps181 Tryz.call181 (fun _ => by kernel_rfl) fun _ _ _ => by kernel_rfl
def o8 : List N := yc :: oA
def jo : C := ⟨T, o8, ⟨[], [12, 14], [7], [(2, [(14, 3)], [])], [], []⟩, 22⟩
def jl : N := M jo hT 180 [.sh (false, [.ptr]), .sh (false, [.sl]), .fn 181 [(false, [.ptr])] 0] [] cU Tryz.func180 rfl Tryz.ntmps180 Tryz.call180 (fun _ => by kernel_rfl) fun _ _ _ => by kernel_rfl
def fm : List N := jl :: o8
def vU : C := ⟨T, fm, ⟨[3], [3], [], [], [], []⟩, 22⟩
def vI : N := M vU hT 163 [.sh (false, [.ptr]), .sh (true, [.bool, .sl, .sl])] [] hZ Tryz.func163 rfl Tryz.ntmps163 Tryz.call163 (fun _ => by kernel_rfl) fun _ _ _ => by kernel_rfl
def oi : List N := vI :: fm
def vm : C := ⟨T, oi, ⟨[3], [3], [], [], [], []⟩, 16⟩
def vJ : N := M vm hT 179 [.sh (false, [.ptr]), .sh (true, [.int .i64, .bool, .sl, .sl])] [] rj Tryz.func179 rfl Tryz.ntmps179 Tryz.call179 (fun _ => by kernel_rfl) fun _ _ _ => by kernel_rfl
def nW : List N := vJ :: oi
def iT : C := ⟨T, nW, ⟨[7], [7, 12, 14], [], [(2, [(14, 3)], [])], [], []⟩, 22⟩
def iN : N := M iT hT 178 [.sh (false, [.ptr]), .sh (false, [.sl]), .fn 179 [(false, [.ptr])] 0] [] eO Tryz.func178 rfl Tryz.ntmps178 Tryz.call178 (fun _ => by kernel_rfl) fun _ _ _ => by kernel_rfl
def eh : List N := iN :: nW
def vx : C := ⟨T, eh, ⟨[3], [3], [], [], [], []⟩, 18⟩
def wc : N := M vx hT 162 [.sh (false, [.ptr]), .sh (true, [.bool, .sl, .sl, .sl])] [] qY Tryz.func162 rfl Tryz.ntmps162 Tryz.call162 (fun _ => by kernel_rfl) fun _ _ _ => by kernel_rfl
def ol : List N := wc :: eh
def iJ : C := ⟨T, ol, ⟨[7], [7, 12, 14], [], [(2, [(14, 3)], [])], [], []⟩, 22⟩
def iA : N := M iJ hT 161 [.sh (false, [.ptr]), .sh (false, [.sl]), .fn 162 [(false, [.ptr])] 0] [] bH Tryz.func161 rfl Tryz.ntmps161 Tryz.call161 (fun _ => by kernel_rfl) fun _ _ _ => by kernel_rfl
def dZ : List N := iA :: ol
def uz : C := ⟨T, dZ, ⟨[], [], [], [], [], []⟩, 11⟩
def ur : N := M uz hT 108 [.sh (false, [.ptr]), .sh (false, [.sl])] [] gJ Tryz.func108 rfl Tryz.ntmps108 Tryz.call108 (fun _ => by kernel_rfl) fun _ _ _ => by kernel_rfl
def mO : List N := ur :: dZ
def vQ : C := ⟨T, mO, ⟨[3], [3], [], [], [], []⟩, 12⟩
def vw : N := M vQ hT 116 [.sh (false, [.ptr]), .sh (true, [.bool, .sl, .sl, .bool, .sl, .sl])] [] jJ Tryz.func116 rfl Tryz.ntmps116 Tryz.call116 (fun _ => by kernel_rfl) fun _ _ _ => by kernel_rfl
def oh : List N := vw :: mO
def vR : C := ⟨T, oh, ⟨[3], [3], [], [], [], []⟩, 28⟩
def vH : N := M vR hT 110 [.sh (false, [.ptr]), .sh (true, [.int .i64, .int .i64, .int .i64, .bool, .sl, .sl, .bool, .sl, .sl])] [] rc Tryz.func110 rfl Tryz.ntmps110 Tryz.call110 (fun _ => by kernel_rfl) fun _ _ _ => by kernel_rfl
def oa : List N := vH :: oh
def iP : C := ⟨T, oa, ⟨[7], [7, 12, 14], [], [(2, [(14, 3)], [])], [], []⟩, 22⟩
def iG : N := M iP hT 109 [.sh (false, [.ptr]), .sh (false, [.sl]), .fn 110 [(false, [.ptr])] 0] [] bG Tryz.func109 rfl Tryz.ntmps109 Tryz.call109 (fun _ => by kernel_rfl) fun _ _ _ => by kernel_rfl
def dS : List N := iG :: oa
def ky : C := ⟨T, dS, ⟨[], [12, 14], [7], [(2, [(14, 3)], [])], [], []⟩, 22⟩
def kD : N := M ky hT 114 [.sh (false, [.ptr]), .sh (false, [.sl]), .fn 37 [(false, [.ptr])] 0] [] cH Tryz.func114 rfl Tryz.ntmps114 Tryz.call114 (fun _ => by kernel_rfl) fun _ _ _ => by kernel_rfl
def gw : List N := kD :: dS
def v9 : C := ⟨T, gw, ⟨[], [], [], [], [], []⟩, 13⟩
def vY : N := M v9 hT 40 [.sh (false, [.ptr]), .sh (false, [.sl])] [] b9 Tryz.func40 rfl Tryz.ntmps40 Tryz.call40 (fun _ => by kernel_rfl) fun _ _ _ => by kernel_rfl
def nY : List N := vY :: gw
def jP : C := ⟨T, nY, ⟨[], [12, 14], [7], [(2, [(14, 3)], [])], [], []⟩, 22⟩
def jY : N := M jP hT 111 [.sh (false, [.ptr]), .sh (false, [.sl]), .fn 40 [(false, [.ptr])] 0] [] bP Tryz.func111 rfl Tryz.ntmps111 Tryz.call111 (fun _ => by kernel_rfl) fun _ _ _ => by kernel_rfl
def fS : List N := jY :: nY
def rI : C := ⟨T, fS, ⟨[3], [3], [], [], [], []⟩, 44⟩
def rr : N := M rI hT 38 [.sh (false, [.ptr]), .sh (true, [.int .i64, .int .i64, .sl, .sl, .sl, .sl, .sl])] [] gV Tryz.func38 rfl Tryz.ntmps38 Tryz.call38 (fun _ => by kernel_rfl) fun _ _ _ => by kernel_rfl
def kT : List N := rr :: fS
def sS : C := ⟨T, kT, ⟨[3], [3], [], [], [], []⟩, 20⟩
def tI : N := M sS hT 113 [.sh (false, [.ptr]), .sh (true, [.sl, .bool, .int .i64])] [] nQ Tryz.func113 rfl Tryz.ntmps113 Tryz.call113 (fun _ => by kernel_rfl) fun _ _ _ => by kernel_rfl
def l8 : List N := tI :: kT
def gL : C := ⟨T, l8, ⟨[7], [7, 12, 14], [], [(2, [(14, 3)], [])], [], []⟩, 22⟩
def gO : N := M gL hT 112 [.sh (false, [.ptr]), .sh (false, [.sl]), .fn 113 [(false, [.ptr])] 0] [] ba Tryz.func112 rfl Tryz.ntmps112 Tryz.call112 (fun _ => by kernel_rfl) fun _ _ _ => by kernel_rfl
def cX : List N := gO :: l8
def sK : C := ⟨T, cX, ⟨[3], [3, 33], [5], [(5, [(33, 3)], [])], [], []⟩, 46⟩
def tj : N := M sK hT 39 [.sh (false, [.ptr]), .sh (true, [.sl, .sl, .sl, .sl, .sl, .sl, .sl, .int .i64])] [] iq Tryz.func39 rfl Tryz.ntmps39 Tryz.call39 (fun _ => by kernel_rfl) fun _ _ _ => by kernel_rfl
def lT : List N := tj :: cX
def ii : C := ⟨T, lT, ⟨[7], [7, 12, 14], [], [(2, [(14, 3)], [])], [], []⟩, 22⟩
def ic : N := M ii hT 115 [.sh (false, [.ptr]), .sh (false, [.sl]), .fn 116 [(false, [.ptr])] 0] [] bB Tryz.func115 rfl Tryz.ntmps115 Tryz.call115 (fun _ => by kernel_rfl) fun _ _ _ => by kernel_rfl
def dN : List N := ic :: lT
def vW : C := ⟨T, dN, ⟨[3], [3], [], [], [], []⟩, 16⟩
def vZ : N := M vW hT 118 [.sh (false, [.ptr]), .sh (true, [.int .i64, .bool, .sl, .sl, .bool, .sl, .sl])] [] mc Tryz.func118 rfl Tryz.ntmps118 Tryz.call118 (fun _ => by kernel_rfl) fun _ _ _ => by kernel_rfl
def oe : List N := vZ :: dN
def iR : C := ⟨T, oe, ⟨[7], [7, 12, 14], [], [(2, [(14, 3)], [])], [], []⟩, 22⟩
def iw : N := M iR hT 117 [.sh (false, [.ptr]), .sh (false, [.sl]), .fn 118 [(false, [.ptr])] 0] [] aW Tryz.func117 rfl Tryz.ntmps117 Tryz.call117 (fun _ => by kernel_rfl) fun _ _ _ => by kernel_rfl
def dX : List N := iw :: oe
def ug : C := ⟨T, dX, ⟨[3], [3], [], [], [], []⟩, 38⟩
def uk : N := M ug hT 41 [.sh (false, [.ptr]), .sh (true, [.sl, .sl, .sl, .sl, .sl])] [] i8 Tryz.func41 rfl Tryz.ntmps41 Tryz.call41 (fun _ => by kernel_rfl) fun _ _ _ => by kernel_rfl
def mR : List N := uk :: dX
def vk : C := ⟨T, mR, ⟨[3], [3], [], [], [], []⟩, 26⟩
def vN : N := M vk hT 43 [.sh (false, [.ptr]), .sh (true, [.int .i64, .bool, .int .i64, .bool, .sl, .sl, .bool, .sl, .sl, .int .i64])] [] qT Tryz.func43 rfl Tryz.ntmps43 Tryz.call43 (fun _ => by kernel_rfl) fun _ _ _ => by kernel_rfl
def od : List N := vN :: mR
def iC : C := ⟨T, od, ⟨[7], [7, 12, 14], [], [(2, [(14, 3)], [])], [], []⟩, 22⟩
def iv : N := M iC hT 42 [.sh (false, [.ptr]), .sh (false, [.sl]), .fn 43 [(false, [.ptr])] 0] [] aV Tryz.func42 rfl Tryz.ntmps42 Tryz.call42 (fun _ => by kernel_rfl) fun _ _ _ => by kernel_rfl
def dY : List N := iv :: od
def jQ : C := ⟨T, dY, ⟨[], [12, 14], [7], [(2, [(14, 3)], [])], [], []⟩, 22⟩
def jM : N := M jQ hT 44 [.sh (false, [.ptr]), .sh (false, [.sl]), .fn 45 [(false, [.ptr])] 0] [] bN Tryz.func44 rfl Tryz.ntmps44 Tryz.call44 (fun _ => by kernel_rfl) fun _ _ _ => by kernel_rfl
def fL : List N := jM :: dY
def xo : C := ⟨T, fL, ⟨[], [], [], [], [], []⟩, 8⟩
def xD : N := M xo hT 47 [.sh (false, [.ptr])] [(false, [.sl])] kH Tryz.func47 rfl Tryz.ntmps47 Tryz.call47 (fun _ => by kernel_rfl) fun _ _ _ => by kernel_rfl
def pG : List N := xD :: fL
def zZ : C := ⟨T, pG, ⟨[], [1, 3, 73], [5], [(15, [(73, 3)], [])], [], []⟩, 88⟩
def aah : N := M zZ hT 9 [.sh (true, zH)] [(false, [.sl])] de Tryz.func9 rfl Tryz.ntmps9 Tryz.call9 (fun _ => by kernel_rfl) fun _ _ _ => by kernel_rfl
def qP : List N := aah :: pG
def abJ : C := ⟨T, qP, ⟨[], [], [], [], [], []⟩, 10⟩
def aco : N := M abJ hT 48 [.sh (false, [.sl]), .sh (false, [.sl])] [(false, [.bool])] ro Tryz.func48 rfl Tryz.ntmps48 Tryz.call48 (fun _ => by kernel_rfl) fun _ _ _ => by kernel_rfl
def tD : List N := aco :: qP
def adw : C := ⟨T, tD, ⟨[2, 3], [], [], [], [], []⟩, 10⟩
def adU : N := M adw hT 10 [.sh (true, zH), .sh (true, zH)] [(false, [.bool])] qA Tryz.func10 rfl Tryz.ntmps10 Tryz.call10 (fun _ => by kernel_rfl) fun _ _ _ => by kernel_rfl
def uK : List N := adU :: tD
def z5 : C := ⟨T, uK, ⟨[1, 3, 5], [3, 5, 7, 11, 17, 25, 29, 33, 38], [2, 4, 6], [(4, [(0, 4)], [])], [], []⟩, 44⟩
def zP : N := M z5 hT 4 [] [(false, [.bool])] iX Tryz.func4 rfl Tryz.ntmps4 Tryz.call4 (fun _ => by kernel_rfl) fun _ _ _ => by kernel_rfl
def qW : List N := zP :: uK
def afp : C := ⟨T, qW, ⟨[], [5, 6, 7], [], [(5, [(5, 120), (7, 3)], [])], [], []⟩, 25⟩
def afa : N := M afp hT 17 [.sh (false, [.sl]), .sh (false, [.int .i64])] [(false, [.sl])] ay Tryz.func17 rfl Tryz.ntmps17 Tryz.call17 (fun _ => by kernel_rfl) fun _ _ _ => by kernel_rfl
def yI : List N := afa :: qW
def adm : C := ⟨T, yI, ⟨[], [], [], [], [], []⟩, 12⟩
def acp : N := M adm hT 18 [.sh (false, [.sl]), .sh (false, [.bool])] [(false, [.sl])] fF Tryz.func18 rfl Tryz.ntmps18 Tryz.call18 (fun _ => by kernel_rfl) fun _ _ _ => by kernel_rfl
def uT : List N := acp :: yI
def acf : C := ⟨T, uT, ⟨[], [0, 5], [], [(4, [(0, 22), (5, 3)], [])], [], []⟩, 46⟩
def abo : N := M acf hT 134 [.sh (false, [.sl]), .sh (false, [.sl])] [(false, [.sl])] lw Tryz.func134 rfl Tryz.ntmps134 Tryz.call134 (fun _ => by kernel_rfl) fun _ _ _ => by kernel_rfl
def sj : List N := abo :: uT
def ab1 : C := ⟨T, sj, ⟨[3], [3], [], [], [], []⟩, 17⟩
def abQ : N := M ab1 hT 63 [.sh (false, [.sl]), .sh (true, [.bool, .sl, .sl])] [(false, [.sl])] iB Tryz.func63 rfl Tryz.ntmps63 Tryz.call63 (fun _ => by kernel_rfl) fun _ _ _ => by kernel_rfl
def sr : List N := abQ :: sj
def afw : C := ⟨T, sr, ⟨[3], [0, 3, 5], [], [(4, [(0, 22), (5, 3)], [])], [], []⟩, 37⟩
def aeR : N := M afw hT 62 [.sh (false, [.sl]), .sh (true, [.bool, .sl, .sl, .sl])] [(false, [.sl])] xy Tryz.func62 rfl Tryz.ntmps62 Tryz.call62 (fun _ => by kernel_rfl) fun _ _ _ => by kernel_rfl
def wP : List N := aeR :: sr
def acA : C := ⟨T, wP, ⟨[], [0, 5], [], [(4, [(0, 22), (5, 3)], [])], [], []⟩, 23⟩
def ac1 : N := M acA hT 21 [.sh (false, [.sl]), .sh (false, [.sl])] [(false, [.sl])] kQ Tryz.func21 rfl Tryz.ntmps21 Tryz.call21 (fun _ => by kernel_rfl) fun _ _ _ => by kernel_rfl
def u8 : List N := ac1 :: wP
def abG : C := ⟨T, u8, ⟨[3], [3], [], [], [], []⟩, 12⟩
def abK : N := M abG hT 22 [.sh (false, [.sl]), .sh (true, [.bool, .sl, .sl, .bool, .sl, .sl])] [(false, [.sl])] gg Tryz.func22 rfl Tryz.ntmps22 Tryz.call22 (fun _ => by kernel_rfl) fun _ _ _ => by kernel_rfl
def rX : List N := abK :: u8
def ady : C := ⟨T, rX, ⟨[], [0, 5], [], [(4, [(0, 22), (5, 3)], [])], [], []⟩, 23⟩
def adQ : N := M ady hT 19 [.sh (false, [.sl]), .sh (false, [.sl])] [(false, [.sl])] bp Tryz.func19 rfl Tryz.ntmps19 Tryz.call19 (fun _ => by kernel_rfl) fun _ _ _ => by kernel_rfl
def vg : List N := adQ :: rX
def ab8 : C := ⟨T, vg, ⟨[], [0, 5], [], [(4, [(0, 22), (5, 3)], [])], [], []⟩, 23⟩
def abv : N := M ab8 hT 20 [.sh (false, [.sl]), .sh (false, [.sl])] [(false, [.sl])] lz Tryz.func20 rfl Tryz.ntmps20 Tryz.call20 (fun _ => by kernel_rfl) fun _ _ _ => by kernel_rfl
def sM : List N := abv :: vg
def yP : C := ⟨T, sM, ⟨[3, 6], [0, 3, 5, 6], [], [(5, [(0, 22), (5, 3)], [])], [], []⟩, 57⟩
def yE : N := M yP hT 16 [.sh (false, [.sl]), .sh (true, [.int .i64, .int .i64, .sl, .sl, .sl, .sl, .sl])] [(false, [.sl])] kz Tryz.func16 rfl Tryz.ntmps16 Tryz.call16 (fun _ => by kernel_rfl) fun _ _ _ => by kernel_rfl
def oT : List N := yE :: sM
def ac2 : C := ⟨T, oT, ⟨[3], [3], [], [], [], []⟩, 12⟩
def acH : N := M ac2 hT 24 [.sh (false, [.sl]), .sh (true, [.int .i64, .bool, .sl, .sl, .bool, .sl, .sl])] [(false, [.sl])] mu Tryz.func24 rfl Tryz.ntmps24 Tryz.call24 (fun _ => by kernel_rfl) fun _ _ _ => by kernel_rfl
def u4 : List N := acH :: oT
def abL : C := ⟨T, u4, ⟨[], [0, 5], [], [(4, [(0, 22), (5, 3)], [])], [], []⟩, 23⟩
def acn : N := M abL hT 23 [.sh (false, [.sl]), .sh (false, [.sl])] [(false, [.sl])] jy Tryz.func23 rfl Tryz.ntmps23 Tryz.call23 (fun _ => by kernel_rfl) fun _ _ _ => by kernel_rfl
def rZ : List N := acn :: u4
def acj : C := ⟨T, rZ, ⟨[1, 5, 8], [1, 3, 4, 5, 6, 7, 8, 9, 10, 11], [], [(6, [(3, 22), (4, 3)], []), (20, [(3, 22), (6, 3)], []), (29, [(3, 22), (7, 3)], []), (39, [(3, 22), (9, 3)], []), (47, [(3, 22), (11, 3)], [])], [], []⟩, 215⟩
def abw : N := M acj hT 6 [.sh (true, zH)] [(false, [.sl])] jx Tryz.func6 rfl Tryz.ntmps6 Tryz.call6 (fun _ => by kernel_rfl) fun _ _ _ => by kernel_rfl
def acb : List N := abw :: rZ
def vC : C := ⟨T, acb, ⟨[3], [3, 4, 10, 19, 25, 28, 36], [], [(10, [(2, 4)], [])], [], []⟩, 41⟩
theorem rK (b : Sl) (w : World) (m : Heap) (hr : Rel ⟨m, []⟩ w.heap) (S : Bool → Heap → Prop) (H : jL b m S) : Calls Tryz.prog 3 #[Sl.toV b] w (Post ⟨w, m⟩ Value.bool S) := cast (by kernel_rfl) (ak4 vC (aaN hT hmix) hT hmix 3 [.sh (false, [.sl])] [(false, [.bool])] jL Tryz.func3 rfl Tryz.ntmps3 (fun _ => by kernel_rfl) (fun _ _ _ => by kernel_rfl) (b, ()) w m S hr H)
end
end Go.Proofs.YtmcfhickfcmkkaaGreatDoor

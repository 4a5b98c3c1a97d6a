/-
  Laws that the proof of this claim's statement leans on, each proved under the conditions that it states.
-/
import Derived.Test.YtlclchgingkkhaaGreatDoorProg
import Derived.Test.YtlclchgingkkhaaGreatDoorSh
import Derived.Test.YtlclchgingkkhaaGreatDoorVE
set_option linter.unusedVariables false
set_option linter.unusedSimpArgs false
namespace Go.Proofs.YtlclchgingkkhaaGreatDoor
open Go Go.Lift Go.Sh
set_option maxRecDepth 100000
noncomputable section
def T : TTab := [(2, .int .i64, 1, 8, [Value.int .i64 0]), (3, .int .i64, 1, 8, [Value.int .i64 0]), (4, .bool, 1, 1, [Value.bool false]), (5, .int .u8, 1, 1, [Value.int .u8 0]), (9, .string, 1, 16, [Value.string (ByteArray.mk #[])]), (22, .slice 85, 1, 24, [Sl.toV Sl.nil]), (23, .slice 47, 1, 24, [Sl.toV Sl.nil]), (26, .pointer 92, 1, 8, [Value.pointer none]), (28, .slice 3, 1, 24, [Sl.toV Sl.nil]), (29, .slice 45, 1, 24, [Sl.toV Sl.nil]), (30, .slice 54, 1, 24, [Sl.toV Sl.nil]), (32, .struct #[⟨ "Basic", 28, 0, false, "", "", 0⟩, ⟨ "Rows", 22, 1, false, "", "", 24⟩, ⟨ "Values", 29, 2, false, "", "", 48⟩, ⟨ "Lower", 30, 3, false, "", "", 72⟩, ⟨ "Upper", 30, 4, false, "", "", 96⟩], 5, 120, [Sl.toV Sl.nil, Sl.toV Sl.nil, Sl.toV Sl.nil, Sl.toV Sl.nil, Sl.toV Sl.nil]), (34, .slice 264, 1, 24, [Sl.toV Sl.nil]), (35, .slice 28, 1, 24, [Sl.toV Sl.nil]), (37, .struct #[⟨ "Bools", 3, 0, false, "", "", 0⟩, ⟨ "Reals", 3, 1, false, "", "", 8⟩, ⟨ "Rows", 22, 2, false, "", "", 16⟩, ⟨ "Atoms", 34, 3, false, "", "", 40⟩, ⟨ "Clauses", 35, 4, false, "", "", 64⟩, ⟨ "Lits", 28, 5, false, "", "", 88⟩, ⟨ "Polys", 22, 6, false, "", "", 112⟩], 7, 136, [Value.int .i64 0, Value.int .i64 0, Sl.toV Sl.nil, Sl.toV Sl.nil, Sl.toV Sl.nil, Sl.toV Sl.nil, Sl.toV Sl.nil]), (39, .slice 118, 1, 24, [Sl.toV Sl.nil]), (41, .struct #[⟨ "Neg", 4, 0, false, "", "", 0⟩, ⟨ "Mag", 39, 1, false, "", "", 8⟩], 2, 32, [Value.bool false, Sl.toV Sl.nil]), (43, .struct #[⟨ "Num", 41, 0, false, "", "", 0⟩, ⟨ "Den", 39, 2, false, "", "", 32⟩], 3, 56, [Value.bool false, Sl.toV Sl.nil, Sl.toV Sl.nil]), (45, .struct #[⟨ "A", 43, 0, false, "", "", 0⟩, ⟨ "B", 43, 3, false, "", "", 56⟩], 6, 112, [Value.bool false, Sl.toV Sl.nil, Sl.toV Sl.nil, Value.bool false, Sl.toV Sl.nil, Sl.toV Sl.nil]), (47, .struct #[⟨ "Check", 4, 0, false, "", "", 0⟩, ⟨ "V", 3, 1, false, "", "", 8⟩, ⟨ "Lit", 3, 2, false, "", "", 16⟩, ⟨ "Upper", 4, 3, false, "", "", 24⟩, ⟨ "At", 45, 4, false, "", "", 32⟩], 10, 144, [Value.bool false, Value.int .i64 0, Value.int .i64 0, Value.bool false, Value.bool false, Sl.toV Sl.nil, Sl.toV Sl.nil, Value.bool false, Sl.toV Sl.nil, Sl.toV Sl.nil]), (48, .slice 88, 1, 24, [Sl.toV Sl.nil]), (49, .int .i64, 1, 8, [Value.int .i64 0]), (52, .pointer 32, 1, 8, [Value.pointer none]), (54, .struct #[⟨ "Lit", 3, 0, false, "", "", 0⟩, ⟨ "At", 45, 1, false, "", "", 8⟩], 7, 120, [Value.int .i64 0, Value.bool false, Sl.toV Sl.nil, Sl.toV Sl.nil, Value.bool false, Sl.toV Sl.nil, Sl.toV Sl.nil]), (71, .slice 43, 1, 24, [Sl.toV Sl.nil]), (82, .struct #[⟨ "Var", 3, 0, false, "", "", 0⟩, ⟨ "Coef", 43, 1, false, "", "", 8⟩], 4, 64, [Value.int .i64 0, Value.bool false, Sl.toV Sl.nil, Sl.toV Sl.nil]), (83, .slice 82, 1, 24, [Sl.toV Sl.nil]), (85, .struct #[⟨ "Const", 43, 0, false, "", "", 0⟩, ⟨ "Monos", 83, 3, false, "", "", 56⟩], 4, 80, [Value.bool false, Sl.toV Sl.nil, Sl.toV Sl.nil, Sl.toV Sl.nil]), (88, .struct #[⟨ "Lit", 3, 0, false, "", "", 0⟩, ⟨ "Coef", 43, 1, false, "", "", 8⟩], 4, 64, [Value.int .i64 0, Value.bool false, Sl.toV Sl.nil, Sl.toV Sl.nil]), (92, .struct #[⟨ "limbs", 3, 0, false, "", "steelyard/nat", 0⟩, ⟨ "over", 4, 1, false, "", "steelyard/nat", 8⟩], 2, 16, [Value.int .i64 0, Value.bool false]), (95, .struct #[⟨ "edges", 30, 0, false, "", "steelyard/simplex", 0⟩, ⟨ "sign", 3, 1, false, "", "steelyard/simplex", 24⟩], 2, 32, [Sl.toV Sl.nil, Value.int .i64 0]), (101, .func #[45] #[4] false, 1, 8, [Value.nilFunc]), (105, .slice 3, 1, 24, [Sl.toV Sl.nil]), (107, .struct #[⟨ "Neg", 4, 0, false, "", "", 0⟩, ⟨ "Num", 105, 1, false, "", "", 8⟩, ⟨ "Den", 105, 2, false, "", "", 32⟩], 3, 56, [Value.bool false, Sl.toV Sl.nil, Sl.toV Sl.nil]), (109, .struct #[⟨ "A", 107, 0, false, "", "", 0⟩, ⟨ "B", 107, 3, false, "", "", 56⟩], 6, 112, [Value.bool false, Sl.toV Sl.nil, Sl.toV Sl.nil, Value.bool false, Sl.toV Sl.nil, Sl.toV Sl.nil]), (118, .int .u32, 1, 4, [Value.int .u32 0]), (134, .func #[82] #[4] false, 1, 8, [Value.nilFunc]), (138, .func #[26, 43, 43] #[43] false, 1, 8, [Value.nilFunc]), (151, .func #[54] #[4] false, 1, 8, [Value.nilFunc]), (155, .int .u64, 1, 8, [Value.int .u64 0]), (184, .array 2 4, 2, 2, [Value.bool false, Value.bool false]), (202, .slice 30, 1, 24, [Sl.toV Sl.nil]), (205, .int .u64, 1, 8, [Value.int .u64 0]), (210, .func #[82, 3] #[3] false, 1, 8, [Value.nilFunc]), (243, .array 2 39, 2, 48, [Sl.toV Sl.nil, Sl.toV Sl.nil]), (247, .array 32 5, 32, 32, [Value.int .u8 0, Value.int .u8 0, Value.int .u8 0, Value.int .u8 0, Value.int .u8 0, Value.int .u8 0, Value.int .u8 0, Value.int .u8 0, Value.int .u8 0, Value.int .u8 0, Value.int .u8 0, Value.int .u8 0, Value.int .u8 0, Value.int .u8 0, Value.int .u8 0, Value.int .u8 0, Value.int .u8 0, Value.int .u8 0, Value.int .u8 0, Value.int .u8 0, Value.int .u8 0, Value.int .u8 0, Value.int .u8 0, Value.int .u8 0, Value.int .u8 0, Value.int .u8 0, Value.int .u8 0, Value.int .u8 0, Value.int .u8 0, Value.int .u8 0, Value.int .u8 0, Value.int .u8 0]), (264, .struct #[⟨ "Bool", 3, 0, false, "", "", 0⟩, ⟨ "Var", 3, 1, false, "", "", 8⟩, ⟨ "Row", 3, 2, false, "", "", 16⟩, ⟨ "Bound", 45, 3, false, "", "", 24⟩], 9, 136, [Value.int .i64 0, Value.int .i64 0, Value.int .i64 0, Value.bool false, Sl.toV Sl.nil, Sl.toV Sl.nil, Value.bool false, Sl.toV Sl.nil, Sl.toV Sl.nil])]
theorem hT : TTab.Ok Tryz.prog T := TTab.ok_cons (by kernel_rfl) (by kernel_rfl) (TTab.ok_cons (by kernel_rfl) (by kernel_rfl) (TTab.ok_cons (by kernel_rfl) (by kernel_rfl) (TTab.ok_cons (by kernel_rfl) (by kernel_rfl) (TTab.ok_cons (by kernel_rfl) (by kernel_rfl) (TTab.ok_cons (by kernel_rfl) (by kernel_rfl) (TTab.ok_cons (by kernel_rfl) (by kernel_rfl) (TTab.ok_cons (by kernel_rfl) (by kernel_rfl) (TTab.ok_cons (by kernel_rfl) (by kernel_rfl) (TTab.ok_cons (by kernel_rfl) (by kernel_rfl) (TTab.ok_cons (by kernel_rfl) (by kernel_rfl) (TTab.ok_cons (by kernel_rfl) (by kernel_rfl) (TTab.ok_cons (by kernel_rfl) (by kernel_rfl) (TTab.ok_cons (by kernel_rfl) (by kernel_rfl) (TTab.ok_cons (by kernel_rfl) (by kernel_rfl) (TTab.ok_cons (by kernel_rfl) (by kernel_rfl) (TTab.ok_cons (by kernel_rfl) (by kernel_rfl) (TTab.ok_cons (by kernel_rfl) (by kernel_rfl) (TTab.ok_cons (by kernel_rfl) (by kernel_rfl) (TTab.ok_cons (by kernel_rfl) (by kernel_rfl) (TTab.ok_cons (by kernel_rfl) (by kernel_rfl) (TTab.ok_cons (by kernel_rfl) (by kernel_rfl) (TTab.ok_cons (by kernel_rfl) (by kernel_rfl) (TTab.ok_cons (by kernel_rfl) (by kernel_rfl) (TTab.ok_cons (by kernel_rfl) (by kernel_rfl) (TTab.ok_cons (by kernel_rfl) (by kernel_rfl) (TTab.ok_cons (by kernel_rfl) (by kernel_rfl) (TTab.ok_cons (by kernel_rfl) (by kernel_rfl) (TTab.ok_cons (by kernel_rfl) (by kernel_rfl) (TTab.ok_cons (by kernel_rfl) (by kernel_rfl) (TTab.ok_cons (by kernel_rfl) (by kernel_rfl) (TTab.ok_cons (by kernel_rfl) (by kernel_rfl) (TTab.ok_cons (by kernel_rfl) (by kernel_rfl) (TTab.ok_cons (by kernel_rfl) (by kernel_rfl) (TTab.ok_cons (by kernel_rfl) (by kernel_rfl) (TTab.ok_cons (by kernel_rfl) (by kernel_rfl) (TTab.ok_cons (by kernel_rfl) (by kernel_rfl) (TTab.ok_cons (by kernel_rfl) (by kernel_rfl) (TTab.ok_cons (by kernel_rfl) (by kernel_rfl) (TTab.ok_cons (by kernel_rfl) (by kernel_rfl) (TTab.ok_cons (by kernel_rfl) (by kernel_rfl) (TTab.ok_cons (by kernel_rfl) (by kernel_rfl) (TTab.ok_cons (by kernel_rfl) (by kernel_rfl) (TTab.ok_cons (by kernel_rfl) (by kernel_rfl) (TTab.ok_cons (by kernel_rfl) (by kernel_rfl) (TTab.ok_cons (by kernel_rfl) (by kernel_rfl) (TTab.ok_cons (by kernel_rfl) (by kernel_rfl) (TTab.ok_nil _)))))))))))))))))))))))))))))))))))))))))))))))
theorem hmix : Tryz.prog.follows .mixedOrders = true := by kernel_rfl
abbrev C := Ctx Tryz.prog
abbrev N := Ent Tryz.prog
abbrev M (c : C) (h : TTab.Ok Tryz.prog c.T) := @agJ _ c (stgD c) (tf h hmix) h hmix
def t_0 : List N := []
def abl : C := ⟨T, t_0, ⟨[], [0, 6], [], [(2, [(0, 39)], []), (4, [(14, 4)], [])], [], []⟩, 21⟩
def aca : N := M abl hT 140 [.sh (false, [.sl])] [(false, [.sl])] aY Tryz.func140 rfl Tryz.ntmps140 Tryz.call140 (fun _ => by kernel_rfl) fun _ _ _ => by kernel_rfl
def tW : List N := aca :: t_0
def aez : C := ⟨T, tW, ⟨[], [], [], [], [], []⟩, 10⟩
def aep : N := M aez hT 91 [.sh (false, [.int .u64])] [(false, [.sl])] kI Tryz.func91 rfl Tryz.ntmps91 Tryz.call91 (fun _ => by kernel_rfl) fun _ _ _ => by kernel_rfl
def aaI : List N := aep :: tW
def abG : C := ⟨T, aaI, ⟨[2], [3], [], [(2, [(3, 155)], [])], [], []⟩, 16⟩
def abY : N := M abG hT 28 [.sh (false, [.int .i64])] [(true, [.bool, .sl, .sl])] dm Tryz.func28 rfl Tryz.ntmps28 Tryz.call28 (fun _ => by kernel_rfl) fun _ _ _ => by kernel_rfl
def sL : List N := abY :: aaI
def dL : C := ⟨T, sL, ⟨[], [], [], [], [], []⟩, 8⟩
def dK : N := M dL hT 32 [.sh (false, [.sl])] [(false, [.sl])] bb Tryz.func32 rfl Tryz.ntmps32 Tryz.call32 (fun _ => by kernel_rfl) fun _ _ _ => by kernel_rfl
def cg : List N := dK :: sL
def uW : C := ⟨T, cg, ⟨[1, 2], [1, 2, 3, 14, 31, 33, 35], [4], [(4, [(14, 3)], [(2, 32)]), (11, [], [(2, 32)])], [], []⟩, 41⟩
def vA : N := M uW hT 9 [.sh (true, [.int .i64, .int .i64, .sl, .sl, .sl, .sl, .sl])] [(true, [.sl, .sl, .sl, .sl, .sl])] fD Tryz.func9 rfl Tryz.ntmps9 Tryz.call9 (fun _ => by kernel_rfl) fun _ _ _ => by kernel_rfl
def kC : List N := vA :: cg
def acJ : C := ⟨T, kC, ⟨[], [], [], [], [], []⟩, 7⟩
def adK : N := M acJ hT 8 [.sh (false, [.int .i64])] [(false, [.ptr])] mf Tryz.func8 rfl Tryz.ntmps8 Tryz.call8 (fun _ => by kernel_rfl) fun _ _ _ => by kernel_rfl
def wE : List N := adK :: kC
def abU : C := ⟨T, wE, ⟨[2], [], [], [], [], []⟩, 6⟩
def abr : N := M abU hT 29 [.sh (false, [.int .i64])] [(true, [.bool, .sl, .sl, .bool, .sl, .sl])] lG Tryz.func29 rfl Tryz.ntmps29 Tryz.call29 (fun _ => by kernel_rfl) fun _ _ _ => by kernel_rfl
def sT : List N := abr :: wE
def xp : C := ⟨T, sT, ⟨[4], [4], [], [], [], []⟩, 16⟩
def xq : N := M xp hT 33 [.sh (false, [.ptr]), .sh (false, [.bool])] [(true, [.sl, .int .i64])] cR Tryz.func33 rfl Tryz.ntmps33 Tryz.call33 (fun _ => by kernel_rfl) fun _ _ _ => by kernel_rfl
def nL : List N := xq :: sT
def aac : C := ⟨T, nL, ⟨[], [], [], [], [], []⟩, 2⟩
def yz : N := M aac hT 158 [] [(false, [.sl])] lp Tryz.func158 rfl Tryz.ntmps158 Tryz.call158 (fun _ => by kernel_rfl) fun _ _ _ => by kernel_rfl
def p8 : List N := yz :: nL
def yn : C := ⟨T, p8, ⟨[1], [1], [], [], [], []⟩, 10⟩
def yD : N := M yn hT 123 [.sh (true, [.bool, .sl, .sl])] [(false, [.sl])] ck Tryz.func123 rfl Tryz.ntmps123 Tryz.call123 (fun _ => by kernel_rfl) fun _ _ _ => by kernel_rfl
def oW : List N := yD :: p8
def wI : C := ⟨T, oW, ⟨[], [], [], [], [], []⟩, 2⟩
def vY : N := M wI hT 119 [] [(false, [.ptr])] cV Tryz.func119 rfl Tryz.ntmps119 Tryz.call119 (fun _ => by kernel_rfl) fun _ _ _ => by kernel_rfl
def nN : List N := vY :: oW
def aaj : C := ⟨T, nN, ⟨[], [5, 6, 8, 9, 15, 17, 19, 24, 26], [7, 10], [(4, [(19, 3)], []), (13, [(8, 155), (26, 3)], [])], [], []⟩, 66⟩
def aab : N := M aaj hT 155 [.sh (false, [.sl]), .sh (false, [.sl])] [(false, [.sl])] iK Tryz.func155 rfl Tryz.ntmps155 Tryz.call155 (fun _ => by kernel_rfl) fun _ _ _ => by kernel_rfl
def pJ : List N := aab :: nN
def eH : C := ⟨T, pJ, ⟨[], [], [], [], [], []⟩, 8⟩
def eM : N := M eH hT 153 [.sh (false, [.sl])] [(false, [.sl])] ay Tryz.func153 rfl Tryz.ntmps153 Tryz.call153 (fun _ => by kernel_rfl) fun _ _ _ => by kernel_rfl
def cF : List N := eM :: pJ
def qL : C := ⟨T, cF, ⟨[], [1, 12], [], [(2, [], [])], [], []⟩, 29⟩
def pB : N := M qL hT 154 [.sh (false, [.ptr]), .sh (false, [.sl])] [(false, [.sl])] bQ Tryz.func154 rfl Tryz.ntmps154 Tryz.call154 (fun _ => by kernel_rfl) fun _ _ _ => by kernel_rfl
def iX : List N := pB :: cF
def pU : C := ⟨T, iX, ⟨[], [], [], [], [], []⟩, 14⟩
def pS : N := M pU hT 120 [.sh (false, [.ptr]), .sh (false, [.sl]), .sh (false, [.sl])] [(false, [.sl])] br Tryz.func120 rfl Tryz.ntmps120 Tryz.call120 (fun _ => by kernel_rfl) fun _ _ _ => by kernel_rfl
def iJ : List N := pS :: iX
def xf : C := ⟨T, iJ, ⟨[2, 4], [2], [], [], [], []⟩, 13⟩
def xE : N := M xf hT 166 [.sh (true, [.bool, .sl]), .sh (false, [.sl])] [(true, [.bool, .sl])] jq Tryz.func166 rfl Tryz.ntmps166 Tryz.call166 (fun _ => by kernel_rfl) fun _ _ _ => by kernel_rfl
def nE : List N := xE :: iJ
def uU : C := ⟨T, nE, ⟨[2, 3, 4, 5], [2, 3], [], [], [], []⟩, 16⟩
def t9 : N := M uU hT 141 [.sh (true, [.bool, .sl, .sl]), .sh (true, [.bool, .sl, .sl])] [(true, [.bool, .sl]), (true, [.bool, .sl])] ig Tryz.func141 rfl Tryz.ntmps141 Tryz.call141 (fun _ => by kernel_rfl) fun _ _ _ => by kernel_rfl
def kT : List N := t9 :: nE
def abD : C := ⟨T, kT, ⟨[], [4, 5, 6, 8, 14, 20], [], [(4, [(4, 39), (5, 155), (14, 3)], []), (12, [(5, 155), (20, 3)], []), (16, [(5, 155)], [])], [], []⟩, 48⟩
def abH : N := M abD hT 177 [.sh (false, [.sl]), .sh (false, [.sl])] [(false, [.sl])] jd Tryz.func177 rfl Tryz.ntmps177 Tryz.call177 (fun _ => by kernel_rfl) fun _ _ _ => by kernel_rfl
def tv : List N := abH :: kT
def rh : C := ⟨T, tv, ⟨[], [], [], [], [], []⟩, 12⟩
def qK : N := M rh hT 156 [.sh (false, [.ptr]), .sh (false, [.sl]), .sh (false, [.sl])] [(false, [.sl])] cz Tryz.func156 rfl Tryz.ntmps156 Tryz.call156 (fun _ => by kernel_rfl) fun _ _ _ => by kernel_rfl
def ix : List N := qK :: tv
def abs : C := ⟨T, ix, ⟨[], [], [], [], [], []⟩, 6⟩
def abd : N := M abs hT 183 [.sh (false, [.int .i64])] [(false, [.int .i64])] lJ Tryz.func183 rfl Tryz.ntmps183 Tryz.call183 (fun _ => by kernel_rfl) fun _ _ _ => by kernel_rfl
def tV : List N := abd :: ix
def adI : C := ⟨T, tV, ⟨[], [0, 1, 5], [], [(8, [(5, 3)], [])], [], []⟩, 49⟩
def acB : N := M adI hT 167 [.sh (false, [.sl]), .sh (false, [.sl])] [(false, [.int .i64])] gW Tryz.func167 rfl Tryz.ntmps167 Tryz.call167 (fun _ => by kernel_rfl) fun _ _ _ => by kernel_rfl
def wA : List N := acB :: tV
def xW : C := ⟨T, wA, ⟨[], [4, 6, 8, 9, 11], [5, 7], [(4, [(4, 39), (5, 155), (11, 3)], []), (11, [(8, 155)], [])], [], []⟩, 41⟩
def aam : N := M xW hT 181 [.sh (false, [.sl]), .sh (false, [.sl])] [(false, [.sl])] fH Tryz.func181 rfl Tryz.ntmps181 Tryz.call181 (fun _ => by kernel_rfl) fun _ _ _ => by kernel_rfl
def oX : List N := aam :: wA
def pb : C := ⟨T, oX, ⟨[], [], [], [], [], []⟩, 17⟩
def qJ : N := M pb hT 168 [.sh (false, [.ptr]), .sh (false, [.sl]), .sh (false, [.sl])] [(false, [.sl])] cS Tryz.func168 rfl Tryz.ntmps168 Tryz.call168 (fun _ => by kernel_rfl) fun _ _ _ => by kernel_rfl
def iG : List N := qJ :: oX
def yf : C := ⟨T, iG, ⟨[2, 3, 4], [2, 3, 4, 5], [], [], [], []⟩, 47⟩
def yI : N := M yf hT 142 [.sh (true, [.bool, .sl]), .sh (true, [.bool, .sl])] [(true, [.bool, .sl])] lk Tryz.func142 rfl Tryz.ntmps142 Tryz.call142 (fun _ => by kernel_rfl) fun _ _ _ => by kernel_rfl
def pj : List N := yI :: iG
def yA : C := ⟨T, pj, ⟨[2, 3, 5, 6, 7], [5, 6, 7, 8], [], [], [], []⟩, 29⟩
def yy : N := M yA hT 94 [.sh (true, [.bool, .sl, .sl]), .sh (true, [.bool, .sl, .sl])] [(false, [.int .i64])] iV Tryz.func94 rfl Tryz.ntmps94 Tryz.call94 (fun _ => by kernel_rfl) fun _ _ _ => by kernel_rfl
def pF : List N := yy :: pj
def zN : C := ⟨T, pF, ⟨[2, 3], [2, 3, 5], [], [], [], []⟩, 19⟩
def xM : N := M zN hT 34 [.sh (true, [.bool, .sl, .sl, .bool, .sl, .sl]), .sh (true, [.bool, .sl, .sl, .bool, .sl, .sl])] [(false, [.int .i64])] gB Tryz.func34 rfl Tryz.ntmps34 Tryz.call34 (fun _ => by kernel_rfl) fun _ _ _ => by kernel_rfl
def oJ : List N := xM :: pF
def i5 : C := ⟨T, oJ, ⟨[3, 5, 7], [3, 7, 16], [], [(2, [(6, 4)], [])], [], []⟩, 26⟩
def iY : N := M i5 hT 35 [.sh (true, [.sl, .int .i64]), .sh (false, [.int .i64]), .sh (true, [.bool, .sl, .sl, .bool, .sl, .sl])] [(false, [.bool])] bU Tryz.func35 rfl Tryz.ntmps35 Tryz.call35 (fun _ => by kernel_rfl) fun _ _ _ => by kernel_rfl
def ew : List N := iY :: oJ
def ir : C := ⟨T, ew, ⟨[], [5, 8], [], [(3, [(8, 3)], [])], [], []⟩, 19⟩
def iu : N := M ir hT 95 [.sh (false, [.sl]), .sh (false, [.int .i64])] [(false, [.int .i64])] cZ Tryz.func95 rfl Tryz.ntmps95 Tryz.call95 (fun _ => by kernel_rfl) fun _ _ _ => by kernel_rfl
def dM : List N := iu :: ew
def vf : C := ⟨T, dM, ⟨[2], [], [], [], [], []⟩, 9⟩
def vp : N := M vf hT 36 [.sh (true, [.sl, .sl, .sl, .sl, .sl]), .sh (false, [.int .i64])] [(false, [.int .i64])] dR Tryz.func36 rfl Tryz.ntmps36 Tryz.call36 (fun _ => by kernel_rfl) fun _ _ _ => by kernel_rfl
def kL : List N := vp :: dM
def xQ : C := ⟨T, kL, ⟨[1, 2], [1, 8], [3], [(1, [(3, 4)], [])], [], []⟩, 25⟩
def xS : N := M xQ hT 115 [.sh (true, [.bool, .sl, .sl])] [(true, [.bool, .sl, .sl])] i4 Tryz.func115 rfl Tryz.ntmps115 Tryz.call115 (fun _ => by kernel_rfl) fun _ _ _ => by kernel_rfl
def ry : List N := xS :: kL
def zY : C := ⟨T, ry, ⟨[], [0, 2, 4], [3], [(4, [(2, 155), (4, 3)], [])], [], []⟩, 26⟩
def zk : N := M zY hT 179 [.sh (false, [.sl])] [(false, [.int .u64]), (false, [.bool])] fI Tryz.func179 rfl Tryz.ntmps179 Tryz.call179 (fun _ => by kernel_rfl) fun _ _ _ => by kernel_rfl
def qO : List N := zk :: ry
def fg : C := ⟨T, qO, ⟨[], [], [], [], [], []⟩, 14⟩
def fq : N := M fg hT 193 [.sh (false, [.int .u32])] [(false, [.int .i64])] bt Tryz.func193 rfl Tryz.ntmps193 Tryz.call193 (fun _ => by kernel_rfl) fun _ _ _ => by kernel_rfl
def cN : List N := fq :: qO
def zP : C := ⟨T, cN, ⟨[], [4, 5, 6, 7, 35, 38, 39, 50, 51], [], [(3, [(4, 3)], []), (9, [], []), (14, [(35, 3)], []), (18, [], [])], [], []⟩, 68⟩
def ym : N := M zP hT 180 [.sh (false, [.sl])] [(false, [.sl]), (false, [.int .i64])] gp Tryz.func180 rfl Tryz.ntmps180 Tryz.call180 (fun _ => by kernel_rfl) fun _ _ _ => by kernel_rfl
def pn : List N := ym :: cN
def wO : C := ⟨T, pn, ⟨[], [5, 8], [], [], [], []⟩, 21⟩
def xA : N := M wO hT 182 [.sh (false, [.sl]), .sh (false, [.int .i64])] [(false, [.sl])] js Tryz.func182 rfl Tryz.ntmps182 Tryz.call182 (fun _ => by kernel_rfl) fun _ _ _ => by kernel_rfl
def nK : List N := xA :: pn
def wN : C := ⟨T, nK, ⟨[], [0, 1, 5, 7, 23, 29, 43, 48, 63], [6, 8, 9, 10], [(10, [], []), (18, [(5, 155), (7, 155)], []), (26, [(0, 39), (1, 39)], []), (30, [(0, 39), (1, 39)], [])], [], []⟩, 75⟩
def wX : N := M wN hT 165 [.sh (false, [.sl]), .sh (false, [.sl])] [(false, [.sl])] jc Tryz.func165 rfl Tryz.ntmps165 Tryz.call165 (fun _ => by kernel_rfl) fun _ _ _ => by kernel_rfl
def nM : List N := wX :: nK
def oM : C := ⟨T, nM, ⟨[], [], [], [], [], []⟩, 12⟩
def oz : N := M oM hT 136 [.sh (false, [.ptr]), .sh (false, [.sl]), .sh (false, [.sl])] [(false, [.sl])] cQ Tryz.func136 rfl Tryz.ntmps136 Tryz.call136 (fun _ => by kernel_rfl) fun _ _ _ => by kernel_rfl
def iS : List N := oz :: nM
def acH : C := ⟨T, iS, ⟨[], [], [], [], [], []⟩, 14⟩
def ac8 : N := M acH hT 192 [.sh (false, [.sl]), .sh (false, [.int .i64])] [(false, [.int .u32])] oS Tryz.func192 rfl Tryz.ntmps192 Tryz.call192 (fun _ => by kernel_rfl) fun _ _ _ => by kernel_rfl
def wM : List N := ac8 :: iS
def wm : C := ⟨T, wM, ⟨[], [0, 1, 4, 5, 6, 8, 10, 11, 16, 22, 38, 51, 68, 70], [7, 9], [(4, [(24, 4)], []), (11, [(5, 39), (10, 3)], []), (15, [(5, 39)], [])], [], []⟩, 81⟩
def vO : N := M wm hT 178 [.sh (false, [.sl]), .sh (false, [.sl])] [(false, [.sl]), (false, [.sl])] jr Tryz.func178 rfl Tryz.ntmps178 Tryz.call178 (fun _ => by kernel_rfl) fun _ _ _ => by kernel_rfl
def nI : List N := vO :: wM
def pH : C := ⟨T, nI, ⟨[], [8, 9, 14], [], [], [], []⟩, 32⟩
def oL : N := M pH hT 157 [.sh (false, [.ptr]), .sh (false, [.sl]), .sh (false, [.sl])] [(false, [.sl]), (false, [.sl])] cT Tryz.func157 rfl Tryz.ntmps157 Tryz.call157 (fun _ => by kernel_rfl) fun _ _ _ => by kernel_rfl
def i0 : List N := oL :: nI
def eI : C := ⟨T, i0, ⟨[], [5, 13], [], [(7, [(13, 3)], [])], [], []⟩, 26⟩
def eK : N := M eI hT 164 [.sh (false, [.sl]), .sh (false, [.sl])] [(false, [.bool])] bT Tryz.func164 rfl Tryz.ntmps164 Tryz.call164 (fun _ => by kernel_rfl) fun _ _ _ => by kernel_rfl
def cG : List N := eK :: i0
def ul : C := ⟨T, cG, ⟨[], [], [], [], [], []⟩, 6⟩
def um : N := M ul hT 135 [.sh (false, [.sl])] [(false, [.bool])] dS Tryz.func135 rfl Tryz.ntmps135 Tryz.call135 (fun _ => by kernel_rfl) fun _ _ _ => by kernel_rfl
def kK : List N := um :: cG
def xh : C := ⟨T, kK, ⟨[6], [1, 2, 6, 7, 8, 14, 21], [], [(5, [(2, 39)], [])], [], []⟩, 39⟩
def vG : N := M xh hT 122 [.sh (false, [.bool]), .sh (false, [.sl]), .sh (false, [.sl])] [(true, [.bool, .sl, .sl])] eU Tryz.func122 rfl Tryz.ntmps122 Tryz.call122 (fun _ => by kernel_rfl) fun _ _ _ => by kernel_rfl
def m7 : List N := vG :: kK
def nT : C := ⟨T, m7, ⟨[], [], [], [], [], []⟩, 7⟩
def nQ : N := M nT hT 12 [.sh (false, [.ptr])] [(false, [.bool])] aW Tryz.func12 rfl Tryz.ntmps12 Tryz.call12 (fun _ => by kernel_rfl) fun _ _ _ => by kernel_rfl
def ik : List N := nQ :: m7
def yO : C := ⟨T, ik, ⟨[3, 4], [3, 4], [], [], [], []⟩, 18⟩
def aah : N := M yO hT 121 [.sh (false, [.ptr]), .sh (true, [.bool, .sl, .sl])] [(true, [.bool, .sl, .sl])] gd Tryz.func121 rfl Tryz.ntmps121 Tryz.call121 (fun _ => by kernel_rfl) fun _ _ _ => by kernel_rfl
def o7 : List N := aah :: ik
def aas : C := ⟨T, o7, ⟨[4, 5, 6, 7], [4, 5, 7, 10], [], [], [], []⟩, 27⟩
def zC : N := M aas hT 124 [.sh (false, [.ptr]), .sh (true, [.bool, .sl, .sl]), .sh (true, [.bool, .sl, .sl])] [(true, [.bool, .sl, .sl])] eG Tryz.func124 rfl Tryz.ntmps124 Tryz.call124 (fun _ => by kernel_rfl) fun _ _ _ => by kernel_rfl
def qm : List N := zC :: o7
def zL : C := ⟨T, qm, ⟨[4, 5, 6], [], [], [], [], []⟩, 12⟩
def yr : N := M zL hT 117 [.sh (false, [.ptr]), .sh (true, [.bool, .sl, .sl]), .sh (true, [.bool, .sl, .sl])] [(true, [.bool, .sl, .sl])] iP Tryz.func117 rfl Tryz.ntmps117 Tryz.call117 (fun _ => by kernel_rfl) fun _ _ _ => by kernel_rfl
def qZ : List N := yr :: qm
def gS : C := ⟨T, qZ, ⟨[6, 7, 8, 9], [6, 7, 8, 9], [], [(1, [], [(9, 45)])], [], []⟩, 29⟩
def gV : N := M gS hT 116 [.sh (false, [.ptr]), .fn 117 [] 0, .sh (true, [.bool, .sl, .sl, .bool, .sl, .sl]), .sh (true, [.bool, .sl, .sl, .bool, .sl, .sl])] [(true, [.bool, .sl, .sl, .bool, .sl, .sl])] eF Tryz.func116 rfl Tryz.ntmps116 Tryz.call116 (fun _ => by kernel_rfl) fun _ _ _ => by kernel_rfl
def dz : List N := gV :: qZ
def xX : C := ⟨T, dz, ⟨[4, 5, 6], [], [], [], [], []⟩, 11⟩
def yh : N := M xX hT 62 [.sh (false, [.ptr]), .sh (true, [.bool, .sl, .sl, .bool, .sl, .sl]), .sh (true, [.bool, .sl, .sl, .bool, .sl, .sl])] [(true, [.bool, .sl, .sl, .bool, .sl, .sl])] lR Tryz.func62 rfl Tryz.ntmps62 Tryz.call62 (fun _ => by kernel_rfl) fun _ _ _ => by kernel_rfl
def pX : List N := yh :: dz
def mD : C := ⟨T, pX, ⟨[2], [], [], [], [], []⟩, 9⟩
def mp : N := M mD hT 144 [.sh (true, [.int .i64, .bool, .sl, .sl]), .sh (false, [.int .i64])] [(false, [.int .i64])] fi Tryz.func144 rfl Tryz.ntmps144 Tryz.call144 (fun _ => by kernel_rfl) fun _ _ _ => by kernel_rfl
def gn : List N := mp :: pX
def bh : C := ⟨T, gn, ⟨[], [8, 9, 10, 11, 39], [], [(4, [(9, 3), (10, 3)], []), (11, [(6, 3), (7, 4)], [])], [], [(24, 144, 0), (40, 144, 0)]⟩, 49⟩
def bg : N := M bh hT 143 [.sh (false, [.sl]), .sh (false, [.int .i64]), .fn 144 [] 0] [(false, [.int .i64]), (false, [.bool])] ak Tryz.func143 rfl Tryz.ntmps143 Tryz.call143 (fun _ => by kernel_rfl) fun _ _ _ => by kernel_rfl
def aF : List N := bg :: gn
def rT : C := ⟨T, aF, ⟨[2, 4], [2, 4, 7], [5, 6], [], [], []⟩, 23⟩
def sf : N := M rT hT 96 [.sh (true, [.bool, .sl, .sl, .sl]), .sh (false, [.int .i64])] [(true, [.bool, .sl, .sl])] eE Tryz.func96 rfl Tryz.ntmps96 Tryz.call96 (fun _ => by kernel_rfl) fun _ _ _ => by kernel_rfl
def jx : List N := sf :: aF
def vC : C := ⟨T, jx, ⟨[1], [1], [], [], [], []⟩, 13⟩
def wg : N := M vC hT 87 [.sh (true, [.bool, .sl, .sl])] [(false, [.int .i64])] bR Tryz.func87 rfl Tryz.ntmps87 Tryz.call87 (fun _ => by kernel_rfl) fun _ _ _ => by kernel_rfl
def nk : List N := wg :: jx
def zI : C := ⟨T, nk, ⟨[4, 5, 6], [4, 5, 7], [], [], [], []⟩, 34⟩
def yG : N := M zI hT 118 [.sh (false, [.ptr]), .sh (true, [.bool, .sl, .sl]), .sh (true, [.bool, .sl, .sl])] [(true, [.bool, .sl, .sl])] ge Tryz.func118 rfl Tryz.ntmps118 Tryz.call118 (fun _ => by kernel_rfl) fun _ _ _ => by kernel_rfl
def pY : List N := yG :: nk
def g8 : C := ⟨T, pY, ⟨[6, 7, 8, 9], [6, 7, 8, 9], [], [(1, [], [(9, 45)])], [], []⟩, 29⟩
def hO : N := M g8 hT 116 [.sh (false, [.ptr]), .fn 118 [] 0, .sh (true, [.bool, .sl, .sl, .bool, .sl, .sl]), .sh (true, [.bool, .sl, .sl, .bool, .sl, .sl])] [(true, [.bool, .sl, .sl, .bool, .sl, .sl])] ey Tryz.func116 rfl Tryz.ntmps116 Tryz.call116 (fun _ => by kernel_rfl) fun _ _ _ => by kernel_rfl
def dr : List N := hO :: pY
def ua : C := ⟨T, dr, ⟨[4, 5, 6], [4], [], [], [], []⟩, 13⟩
def uo : N := M ua hT 63 [.sh (false, [.ptr]), .sh (true, [.bool, .sl, .sl]), .sh (true, [.bool, .sl, .sl, .bool, .sl, .sl])] [(true, [.bool, .sl, .sl, .bool, .sl, .sl])] fo Tryz.func63 rfl Tryz.ntmps63 Tryz.call63 (fun _ => by kernel_rfl) fun _ _ _ => by kernel_rfl
def lU : List N := uo :: dr
def gI : C := ⟨T, lU, ⟨[6, 7, 8, 9], [6, 7, 8, 9], [], [(1, [], [(9, 45)])], [], []⟩, 29⟩
def ie : N := M gI hT 116 [.sh (false, [.ptr]), .fn 124 [] 0, .sh (true, [.bool, .sl, .sl, .bool, .sl, .sl]), .sh (true, [.bool, .sl, .sl, .bool, .sl, .sl])] [(true, [.bool, .sl, .sl, .bool, .sl, .sl])] eu Tryz.func116 rfl Tryz.ntmps116 Tryz.call116 (fun _ => by kernel_rfl) fun _ _ _ => by kernel_rfl
def dD : List N := ie :: lU
def yg : C := ⟨T, dD, ⟨[4, 5, 6], [], [], [], [], []⟩, 11⟩
def zH : N := M yg hT 65 [.sh (false, [.ptr]), .sh (true, [.bool, .sl, .sl, .bool, .sl, .sl]), .sh (true, [.bool, .sl, .sl, .bool, .sl, .sl])] [(true, [.bool, .sl, .sl, .bool, .sl, .sl])] iF Tryz.func65 rfl Tryz.ntmps65 Tryz.call65 (fun _ => by kernel_rfl) fun _ _ _ => by kernel_rfl
def p5 : List N := zH :: dD
def sH : C := ⟨T, p5, ⟨[], [], [], [], [], []⟩, 5⟩
def sI : N := M sH hT 97 [.sh (false, [.ptr])] [(false, [.int .i64])] iz Tryz.func97 rfl Tryz.ntmps97 Tryz.call97 (fun _ => by kernel_rfl) fun _ _ _ => by kernel_rfl
def jJ : List N := sI :: p5
def nU : C := ⟨T, jJ, ⟨[7, 9, 11, 12], [7, 9, 11, 12, 13, 16, 25, 53, 55], [10], [(2, [(32, 4)], []), (5, [], [(9, 45)]), (9, [(55, 3)], []), (13, [], [])], [], []⟩, 95⟩
def nS : N := M nU hT 37 [.sh (false, [.ptr]), .sh (false, [.ptr]), .sh (false, [.int .i64]), .sh (true, [.bool, .sl, .sl, .bool, .sl, .sl])] [(false, [.int .i64])] dX Tryz.func37 rfl Tryz.ntmps37 Tryz.call37 (fun _ => by kernel_rfl) fun _ _ _ => by kernel_rfl
def il : List N := nS :: jJ
def rE : C := ⟨T, il, ⟨[9, 12, 13], [9, 12, 13, 17, 45, 90], [], [(2, [(14, 4)], []), (10, [(37, 4)], []), (18, [(101, 4)], [])], [], []⟩, 108⟩
def rQ : N := M rE hT 10 [.sh (false, [.ptr]), .sh (false, [.ptr]), .sh (false, [.int .i64]), .sh (false, [.bool]), .sh (true, [.int .i64, .bool, .sl, .sl, .bool, .sl, .sl])] [(false, [.sl]), (false, [.int .i64])] cU Tryz.func10 rfl Tryz.ntmps10 Tryz.call10 (fun _ => by kernel_rfl) fun _ _ _ => by kernel_rfl
def iC : List N := rQ :: il
def qB : C := ⟨T, iC, ⟨[], [2, 5, 7, 11, 13, 19, 34, 37], [3, 4], [(4, [(2, 3), (3, 4), (13, 3)], []), (11, [(2, 3), (3, 4), (19, 3)], []), (15, [(2, 3), (3, 4)], []), (17, [(48, 4)], [])], [], []⟩, 55⟩
def qw : N := M qB hT 56 [.sh (false, [.ptr])] [(false, [.int .i64]), (false, [.bool])] hJ Tryz.func56 rfl Tryz.ntmps56 Tryz.call56 (fun _ => by kernel_rfl) fun _ _ _ => by kernel_rfl
def iT : List N := qw :: iC
def uM : C := ⟨T, iT, ⟨[2], [], [], [], [], []⟩, 11⟩
def vi : N := M uM hT 59 [.sh (true, [.int .i64, .bool, .sl, .sl]), .sh (false, [.bool])] [(false, [.bool])] gK Tryz.func59 rfl Tryz.ntmps59 Tryz.call59 (fun _ => by kernel_rfl) fun _ _ _ => by kernel_rfl
def lO : List N := vi :: iT
def jS : C := ⟨T, lO, ⟨[3, 5, 7], [3, 7, 16], [], [(2, [(6, 4)], [])], [], []⟩, 26⟩
def j9 : N := M jS hT 60 [.sh (true, [.sl, .int .i64]), .sh (false, [.int .i64]), .sh (true, [.bool, .sl, .sl, .bool, .sl, .sl])] [(false, [.bool])] dP Tryz.func60 rfl Tryz.ntmps60 Tryz.call60 (fun _ => by kernel_rfl) fun _ _ _ => by kernel_rfl
def fy : List N := j9 :: lO
def mb : C := ⟨T, fy, ⟨[3], [3], [], [], [], []⟩, 21⟩
def mO : N := M mb hT 58 [.sh (true, [.int .i64, .bool, .sl, .sl]), .sh (false, [.adr]), .sh (false, [.adr])] [(false, [.bool])] iH Tryz.func58 rfl Tryz.ntmps58 Tryz.call58 (fun _ => by kernel_rfl) fun _ _ _ => by kernel_rfl
def gE : List N := mO :: fy
def bO : C := ⟨T, gE, ⟨[], [5, 8], [], [(3, [(8, 3)], [])], [], []⟩, 19⟩
def bP : N := M bO hT 57 [.sh (false, [.sl]), .fn 58 [] 2] [(false, [.int .i64])] aD Tryz.func57 rfl Tryz.ntmps57 Tryz.call57 (fun _ => by kernel_rfl) fun _ _ _ => by kernel_rfl
def aT : List N := bP :: gE
def ma : C := ⟨T, aT, ⟨[10, 11], [8, 10, 11, 37, 39], [7], [(5, [(8, 48), (39, 3)], []), (12, [], [(11, 43)])], [], []⟩, 68⟩
def mI : N := M ma hT 61 [.sh (false, [.ptr]), .sh (false, [.int .i64]), .sh (false, [.bool])] [(false, [.sl])] fz Tryz.func61 rfl Tryz.ntmps61 Tryz.call61 (fun _ => by kernel_rfl) fun _ _ _ => by kernel_rfl
def gw : List N := mI :: aT
def yl : C := ⟨T, gw, ⟨[4, 5, 6], [4, 5, 6, 7], [], [], [], []⟩, 38⟩
def zp : N := M yl hT 64 [.sh (false, [.ptr]), .sh (true, [.bool, .sl, .sl]), .sh (true, [.bool, .sl, .sl])] [(true, [.bool, .sl, .sl])] lH Tryz.func64 rfl Tryz.ntmps64 Tryz.call64 (fun _ => by kernel_rfl) fun _ _ _ => by kernel_rfl
def pE : List N := zp :: gw
def z6 : C := ⟨T, pE, ⟨[2], [], [], [], [], []⟩, 8⟩
def yM : N := M z6 hT 127 [.sh (false, [.int .i64])] [(true, [.bool, .sl, .sl, .sl])] rL Tryz.func127 rfl Tryz.ntmps127 Tryz.call127 (fun _ => by kernel_rfl) fun _ _ _ => by kernel_rfl
def oD : List N := yM :: pE
def mz : C := ⟨T, oD, ⟨[3, 4], [], [], [], [], []⟩, 9⟩
def mK : N := M mz hT 160 [.sh (true, [.bool, .sl, .sl]), .sh (false, [.adr]), .sh (false, [.adr])] [(true, [.bool, .sl, .sl])] dG Tryz.func160 rfl Tryz.ntmps160 Tryz.call160 (fun _ => by kernel_rfl) fun _ _ _ => by kernel_rfl
def gc : List N := mK :: oD
def uP : C := ⟨T, gc, ⟨[3, 4], [4], [], [], [], []⟩, 9⟩
def ve : N := M uP hT 159 [.sh (false, [.ptr]), .sh (true, [.bool, .sl, .sl, .sl])] [(true, [.bool, .sl, .sl, .sl])] gQ Tryz.func159 rfl Tryz.ntmps159 Tryz.call159 (fun _ => by kernel_rfl) fun _ _ _ => by kernel_rfl
def kN : List N := ve :: gc
def sF : C := ⟨T, kN, ⟨[5, 6, 8, 10], [3, 4, 5, 6, 7, 8, 10, 22, 24], [], [(9, [(24, 3)], [(8, 85)])], [], [(16, 160, 2), (32, 160, 2)]⟩, 44⟩
def rX : N := M sF hT 126 [.sh (false, [.ptr]), .sh (true, [.bool, .sl, .sl]), .sh (true, [.bool, .sl, .sl, .sl])] [(true, [.bool, .sl, .sl, .sl])] fL Tryz.func126 rfl Tryz.ntmps126 Tryz.call126 (fun _ => by kernel_rfl) fun _ _ _ => by kernel_rfl
def jz : List N := rX :: kN
def mu : C := ⟨T, jz, ⟨[2, 4, 5, 7], [2, 5, 7, 12, 14], [], [(4, [(14, 3)], [(5, 85)]), (8, [], [(5, 85)])], [], []⟩, 30⟩
def my : N := M mu hT 128 [.sh (true, [.bool, .sl, .sl, .sl]), .sh (false, [.int .i64])] [(true, [.bool, .sl, .sl, .sl])] dj Tryz.func128 rfl Tryz.ntmps128 Tryz.call128 (fun _ => by kernel_rfl) fun _ _ _ => by kernel_rfl
def gf : List N := my :: jz
def xw : C := ⟨T, gf, ⟨[5, 6, 7, 8, 9, 12], [5, 7, 9, 10, 11, 12, 31, 59, 63, 84], [], [(5, [(10, 83), (11, 83)], [(9, 85)]), (7, [(35, 4)], []), (10, [(10, 83), (11, 83)], [(12, 82)]), (11, [(55, 4)], []), (13, [(80, 4)], [])], [], []⟩, 113⟩
def wF : N := M xw hT 125 [.sh (false, [.ptr]), .sh (true, [.bool, .sl, .sl, .sl]), .sh (true, [.bool, .sl, .sl]), .sh (true, [.bool, .sl, .sl, .sl])] [(true, [.bool, .sl, .sl, .sl])] je Tryz.func125 rfl Tryz.ntmps125 Tryz.call125 (fun _ => by kernel_rfl) fun _ _ _ => by kernel_rfl
def ni : List N := wF :: gf
def im : C := ⟨T, ni, ⟨[], [], [], [], [], []⟩, 8⟩
def iq : N := M im hT 114 [.sh (false, [.sl])] [(false, [.sl])] cY Tryz.func114 rfl Tryz.ntmps114 Tryz.call114 (fun _ => by kernel_rfl) fun _ _ _ => by kernel_rfl
def dN : List N := iq :: ni
def pV : C := ⟨T, dN, ⟨[9, 11, 12, 15, 16], [9, 11, 12, 13, 15, 16, 19, 77, 79], [10, 14], [(2, [(27, 4)], []), (11, [], [(11, 43)]), (12, [], [(12, 85)]), (16, [(79, 3)], []), (20, [], [])], [], []⟩, 126⟩
def qq : N := M pV hT 66 [.sh (false, [.ptr]), .sh (false, [.ptr]), .sh (false, [.int .i64]), .sh (false, [.int .i64])] [(false, [.int .i64])] gU Tryz.func66 rfl Tryz.ntmps66 Tryz.call66 (fun _ => by kernel_rfl) fun _ _ _ => by kernel_rfl
def i7 : List N := qq :: dN
def sy : C := ⟨T, i7, ⟨[11, 13, 14], [3, 7, 8, 9, 10, 11, 12, 13, 14, 15], [], [(13, [], [(13, 45)]), (14, [], [(14, 45)])], [], []⟩, 99⟩
def sx : N := M sy hT 25 [.sh (false, [.ptr]), .sh (false, [.ptr])] [(false, [.int .i64]), (false, [.sl]), (false, [.int .i64])] fR Tryz.func25 rfl Tryz.ntmps25 Tryz.call25 (fun _ => by kernel_rfl) fun _ _ _ => by kernel_rfl
def jH : List N := sx :: i7
def pL : C := ⟨T, jH, ⟨[], [9], [6, 7, 8], [(1, [], [])], [], []⟩, 20⟩
def pp : N := M pL hT 11 [.sh (false, [.ptr]), .sh (false, [.ptr])] [(false, [.sl]), (false, [.int .i64])] l7 Tryz.func11 rfl Tryz.ntmps11 Tryz.call11 (fun _ => by kernel_rfl) fun _ _ _ => by kernel_rfl
def iW : List N := pp :: jH
def sr : C := ⟨T, iW, ⟨[1], [1, 2, 3, 4, 29, 36, 41], [5], [(8, [(0, 4)], [])], [], []⟩, 48⟩
def rU : N := M sr hT 6 [] [(false, [.bool])] dZ Tryz.func6 rfl Tryz.ntmps6 Tryz.call6 (fun _ => by kernel_rfl) fun _ _ _ => by kernel_rfl
def jD : List N := rU :: iW
def u7 : C := ⟨T, jD, ⟨[4], [4, 5, 7, 16], [], [(3, [(7, 3)], []), (9, [(21, 4)], [])], [], []⟩, 23⟩
def vn : N := M u7 hT 18 [.sh (false, [.sl])] [(false, [.bool])] dg Tryz.func18 rfl Tryz.ntmps18 Tryz.call18 (fun _ => by kernel_rfl) fun _ _ _ => by kernel_rfl
def kQ : List N := vn :: jD
def zD : C := ⟨T, kQ, ⟨[], [3, 8], [], [(3, [(3, 3)], []), (5, [(15, 4)], [])], [], []⟩, 21⟩
def yt : N := M zD hT 151 [.sh (false, [.sl])] [(false, [.sl])] db Tryz.func151 rfl Tryz.ntmps151 Tryz.call151 (fun _ => by kernel_rfl) fun _ _ _ => by kernel_rfl
def oO : List N := yt :: kQ
def ab6 : C := ⟨T, oO, ⟨[], [3, 4, 5, 6, 7], [], [(4, [(3, 105), (4, 3)], []), (12, [(5, 3), (6, 3)], []), (19, [(3, 105), (5, 3)], [])], [], []⟩, 52⟩
def abR : N := M ab6 hT 106 [.sh (false, [.sl])] [(false, [.sl])] kJ Tryz.func106 rfl Tryz.ntmps106 Tryz.call106 (fun _ => by kernel_rfl) fun _ _ _ => by kernel_rfl
def sR : List N := abR :: oO
def acd : C := ⟨T, sR, ⟨[1, 2, 3], [1, 3], [], [(1, [], [(3, 107)]), (2, [], [(3, 107)])], [], []⟩, 22⟩
def ab4 : N := M acd hT 50 [.sh (true, [.bool, .sl, .sl])] [(true, [.bool, .sl, .sl])] dC Tryz.func50 rfl Tryz.ntmps50 Tryz.call50 (fun _ => by kernel_rfl) fun _ _ _ => by kernel_rfl
def tm : List N := ab4 :: sR
def zF : C := ⟨T, tm, ⟨[2, 3], [0, 3], [], [(2, [(0, 3)], []), (6, [(0, 3)], [(3, 107)])], [], []⟩, 25⟩
def x6 : N := M zF hT 73 [.sh (false, [.int .i64])] [(true, [.bool, .sl, .sl])] du Tryz.func73 rfl Tryz.ntmps73 Tryz.call73 (fun _ => by kernel_rfl) fun _ _ _ => by kernel_rfl
def ph : List N := x6 :: tm
def zV : C := ⟨T, ph, ⟨[], [5], [], [(11, [(5, 3)], [])], [], []⟩, 41⟩
def aad : N := M zV hT 162 [.sh (false, [.sl]), .sh (false, [.sl])] [(false, [.int .i64])] gH Tryz.func162 rfl Tryz.ntmps162 Tryz.call162 (fun _ => by kernel_rfl) fun _ _ _ => by kernel_rfl
def qE : List N := aad :: ph
def aal : C := ⟨T, qE, ⟨[], [5, 7, 8], [6], [(9, [(5, 105), (6, 3), (7, 3)], []), (15, [(8, 3)], []), (19, [(6, 3), (8, 3)], [])], [], []⟩, 47⟩
def yR : N := M aal hT 163 [.sh (false, [.sl]), .sh (false, [.sl])] [(false, [.sl])] gv Tryz.func163 rfl Tryz.ntmps163 Tryz.call163 (fun _ => by kernel_rfl) fun _ _ _ => by kernel_rfl
def ot : List N := yR :: qE
def aaa : C := ⟨T, ot, ⟨[], [6, 7, 8, 15, 40, 41], [], [(9, [(7, 105), (8, 3)], []), (15, [(7, 105)], [])], [], []⟩, 49⟩
def yW : N := M aaa hT 150 [.sh (false, [.sl]), .sh (false, [.sl])] [(false, [.sl]), (false, [.sl])] gF Tryz.func150 rfl Tryz.ntmps150 Tryz.call150 (fun _ => by kernel_rfl) fun _ _ _ => by kernel_rfl
def oT : List N := yW :: ot
def xZ : C := ⟨T, oT, ⟨[], [0, 1, 10], [5, 6], [(2, [(0, 105), (1, 105)], [])], [], []⟩, 19⟩
def yL : N := M xZ hT 149 [.sh (false, [.sl]), .sh (false, [.sl])] [(false, [.sl])] lI Tryz.func149 rfl Tryz.ntmps149 Tryz.call149 (fun _ => by kernel_rfl) fun _ _ _ => by kernel_rfl
def oq : List N := yL :: oT
def yN : C := ⟨T, oq, ⟨[1, 2], [1, 2, 3, 18, 25], [4, 5, 6, 7], [], [], []⟩, 37⟩
def yZ : N := M yN hT 104 [.sh (true, [.bool, .sl, .sl])] [(true, [.bool, .sl, .sl])] dE Tryz.func104 rfl Tryz.ntmps104 Tryz.call104 (fun _ => by kernel_rfl) fun _ _ _ => by kernel_rfl
def oR : List N := yZ :: oq
def uz : C := ⟨T, oR, ⟨[], [3, 4, 5, 6, 7], [], [(4, [(3, 39), (4, 3)], []), (8, [(3, 39)], []), (12, [(5, 155), (6, 3)], [])], [], []⟩, 51⟩
def uX : N := M uz hT 105 [.sh (false, [.sl])] [(false, [.sl])] cO Tryz.func105 rfl Tryz.ntmps105 Tryz.call105 (fun _ => by kernel_rfl) fun _ _ _ => by kernel_rfl
def lw : List N := uX :: oR
def wv : C := ⟨T, lw, ⟨[1, 2, 3], [1, 3, 17], [], [(2, [], [(3, 43)]), (3, [], [(3, 43)]), (4, [(23, 4)], [])], [], []⟩, 29⟩
def xK : N := M wv hT 49 [.sh (true, [.bool, .sl, .sl])] [(true, [.bool, .sl, .sl])] bq Tryz.func49 rfl Tryz.ntmps49 Tryz.call49 (fun _ => by kernel_rfl) fun _ _ _ => by kernel_rfl
def nB : List N := xK :: lw
def wT : C := ⟨T, nB, ⟨[], [5], [], [(7, [(5, 3)], [])], [], []⟩, 26⟩
def wS : N := M wT hT 103 [.sh (false, [.sl]), .sh (false, [.sl])] [(false, [.bool])] eY Tryz.func103 rfl Tryz.ntmps103 Tryz.call103 (fun _ => by kernel_rfl) fun _ _ _ => by kernel_rfl
def m9 : List N := wS :: nB
def wL : C := ⟨T, m9, ⟨[2, 3], [2, 3, 12, 21], [], [(1, [(4, 4)], [])], [], []⟩, 28⟩
def xe : N := M wL hT 48 [.sh (true, [.bool, .sl, .sl]), .sh (true, [.bool, .sl, .sl])] [(false, [.bool])] cW Tryz.func48 rfl Tryz.ntmps48 Tryz.call48 (fun _ => by kernel_rfl) fun _ _ _ => by kernel_rfl
def nO : List N := xe :: m9
def uE : C := ⟨T, nO, ⟨[1], [1, 8, 21, 26, 38, 44], [], [(2, [(49, 4)], [])], [], []⟩, 55⟩
def vd : N := M uE hT 19 [.sh (true, [.bool, .sl, .sl])] [(false, [.bool])] cA Tryz.func19 rfl Tryz.ntmps19 Tryz.call19 (fun _ => by kernel_rfl) fun _ _ _ => by kernel_rfl
def kY : List N := vd :: nO
def vo : C := ⟨T, kY, ⟨[1, 4], [1, 3, 4, 24, 27, 40, 46], [], [(7, [(3, 3)], []), (13, [(53, 4)], [])], [], []⟩, 54⟩
def uC : N := M vo hT 41 [.sh (true, [.bool, .sl, .sl, .sl])] [(false, [.bool])] jX Tryz.func41 rfl Tryz.ntmps41 Tryz.call41 (fun _ => by kernel_rfl) fun _ _ _ => by kernel_rfl
def lX : List N := uC :: kY
def aaq : C := ⟨T, lX, ⟨[4, 6], [4, 6, 7, 9, 17, 23, 29, 31], [], [(3, [(9, 3)], []), (10, [(27, 4)], []), (14, [(31, 3)], [])], [], []⟩, 41⟩
def zq : N := M aaq hT 92 [.sh (false, [.sl])] [(false, [.bool])] oK Tryz.func92 rfl Tryz.ntmps92 Tryz.call92 (fun _ => by kernel_rfl) fun _ _ _ => by kernel_rfl
def ox : List N := zq :: lX
def uD : C := ⟨T, ox, ⟨[], [8, 12], [], [(1, [(4, 4)], [])], [], []⟩, 16⟩
def uH : N := M uD hT 30 [.sh (false, [.sl]), .sh (false, [.int .i64])] [(false, [.bool])] kg Tryz.func30 rfl Tryz.ntmps30 Tryz.call30 (fun _ => by kernel_rfl) fun _ _ _ => by kernel_rfl
def kO : List N := uH :: ox
def uG : C := ⟨T, kO, ⟨[1], [1, 6], [], [(1, [(2, 4)], [])], [], []⟩, 11⟩
def uw : N := M uG hT 93 [.sh (true, [.bool, .sl, .sl, .bool, .sl, .sl])] [(false, [.bool])] oG Tryz.func93 rfl Tryz.ntmps93 Tryz.call93 (fun _ => by kernel_rfl) fun _ _ _ => by kernel_rfl
def kt : List N := uw :: kO
def zf : C := ⟨T, kt, ⟨[4], [4, 5, 7, 17], [], [(3, [(7, 3)], []), (9, [(21, 4)], [])], [], []⟩, 23⟩
def aao : N := M zf hT 31 [.sh (false, [.sl])] [(false, [.bool])] kn Tryz.func31 rfl Tryz.ntmps31 Tryz.call31 (fun _ => by kernel_rfl) fun _ _ _ => by kernel_rfl
def qI : List N := aao :: kt
def yd : C := ⟨T, qI, ⟨[8, 10, 12], [8, 10, 12, 15, 20, 25, 27, 35, 43, 57, 59, 69, 78, 80, 88, 97, 105, 114], [], [(2, [(24, 4)], []), (7, [(27, 3)], []), (14, [(55, 4)], []), (18, [(59, 3)], []), (24, [(75, 4)], []), (29, [(80, 3)], []), (35, [(121, 4)], [])], [], []⟩, 123⟩
def yK : N := M yd hT 7 [.sh (false, [.int .i64]), .sh (false, [.sl]), .sh (false, [.sl])] [(false, [.bool])] ro Tryz.func7 rfl Tryz.ntmps7 Tryz.call7 (fun _ => by kernel_rfl) fun _ _ _ => by kernel_rfl
def pT : List N := yK :: qI
def zM : C := ⟨T, pT, ⟨[1, 2, 3], [1, 3, 5, 6], [4], [(5, [(5, 3)], [(3, 32)]), (12, [(6, 3)], [(3, 32)])], [], []⟩, 56⟩
def zo : N := M zM hT 22 [.sh (true, [.int .i64, .int .i64, .sl, .sl, .sl, .sl, .sl])] [(true, [.sl, .sl, .sl, .sl, .sl])] iN Tryz.func22 rfl Tryz.ntmps22 Tryz.call22 (fun _ => by kernel_rfl) fun _ _ _ => by kernel_rfl
def re : List N := zo :: pT
def abf : C := ⟨T, re, ⟨[1, 2], [1], [], [], [], []⟩, 10⟩
def abP : N := M abf hT 44 [.sh (true, [.bool, .sl, .sl, .bool, .sl, .sl])] [(true, [.bool, .sl, .sl, .bool, .sl, .sl])] eQ Tryz.func44 rfl Tryz.ntmps44 Tryz.call44 (fun _ => by kernel_rfl) fun _ _ _ => by kernel_rfl
def te : List N := abP :: re
def xP : C := ⟨T, te, ⟨[1, 2], [1, 6], [], [(1, [], [(2, 107)])], [], []⟩, 17⟩
def yJ : N := M xP hT 76 [.sh (true, [.bool, .sl, .sl])] [(true, [.bool, .sl, .sl])] d9 Tryz.func76 rfl Tryz.ntmps76 Tryz.call76 (fun _ => by kernel_rfl) fun _ _ _ => by kernel_rfl
def oZ : List N := yJ :: te
def x9 : C := ⟨T, oZ, ⟨[], [5, 6, 7, 8, 9, 15, 27], [], [(4, [(6, 3)], []), (11, [(7, 3), (8, 3)], []), (13, [(30, 4)], []), (17, [(9, 3)], [])], [], []⟩, 67⟩
def zr : N := M x9 hT 131 [.sh (false, [.sl]), .sh (false, [.sl])] [(false, [.sl])] c8 Tryz.func131 rfl Tryz.ntmps131 Tryz.call131 (fun _ => by kernel_rfl) fun _ _ _ => by kernel_rfl
def po : List N := zr :: oZ
def zW : C := ⟨T, po, ⟨[], [5, 6, 7, 8, 14, 20], [], [(5, [(5, 105), (6, 3), (7, 3)], []), (7, [(23, 4)], []), (11, [(8, 3)], []), (14, [(8, 3)], [])], [], []⟩, 56⟩
def xY : N := M zW hT 161 [.sh (false, [.sl]), .sh (false, [.sl])] [(false, [.sl])] kG Tryz.func161 rfl Tryz.ntmps161 Tryz.call161 (fun _ => by kernel_rfl) fun _ _ _ => by kernel_rfl
def oB : List N := xY :: po
def zU : C := ⟨T, oB, ⟨[2, 3, 4], [2, 3, 4, 5, 6, 7], [], [], [], []⟩, 56⟩
def yV : N := M zU hT 129 [.sh (true, [.bool, .sl, .sl]), .sh (true, [.bool, .sl, .sl])] [(true, [.bool, .sl, .sl])] fh Tryz.func129 rfl Tryz.ntmps129 Tryz.call129 (fun _ => by kernel_rfl) fun _ _ _ => by kernel_rfl
def pQ : List N := yV :: oB
def zZ : C := ⟨T, pQ, ⟨[2, 3, 5], [5], [], [(1, [], [(5, 107)])], [], []⟩, 16⟩
def zw : N := M zZ hT 98 [.sh (true, [.bool, .sl, .sl]), .sh (true, [.bool, .sl, .sl])] [(false, [.int .i64])] kU Tryz.func98 rfl Tryz.ntmps98 Tryz.call98 (fun _ => by kernel_rfl) fun _ _ _ => by kernel_rfl
def qT : List N := zw :: pQ
def yE : C := ⟨T, qT, ⟨[2, 3], [2, 3, 5], [], [(2, [(5, 3)], [])], [], []⟩, 19⟩
def za : N := M yE hT 42 [.sh (true, [.bool, .sl, .sl, .bool, .sl, .sl]), .sh (true, [.bool, .sl, .sl, .bool, .sl, .sl])] [(false, [.int .i64])] pA Tryz.func42 rfl Tryz.ntmps42 Tryz.call42 (fun _ => by kernel_rfl) fun _ _ _ => by kernel_rfl
def rd : List N := za :: qT
def xV : C := ⟨T, rd, ⟨[2, 3], [], [], [], [], []⟩, 10⟩
def xO : N := M xV hT 46 [.sh (true, [.bool, .sl, .sl, .bool, .sl, .sl]), .sh (true, [.bool, .sl, .sl, .bool, .sl, .sl])] [(false, [.int .i64])] bZ Tryz.func46 rfl Tryz.ntmps46 Tryz.call46 (fun _ => by kernel_rfl) fun _ _ _ => by kernel_rfl
def oH : List N := xO :: rd
def zG : C := ⟨T, oH, ⟨[0], [], [], [], [], []⟩, 3⟩
def zX : N := M zG hT 54 [] [(true, [.bool, .sl, .sl])] fC Tryz.func54 rfl Tryz.ntmps54 Tryz.call54 (fun _ => by kernel_rfl) fun _ _ _ => by kernel_rfl
def qQ : List N := zX :: oH
def yS : C := ⟨T, qQ, ⟨[2], [2, 5], [], [(3, [(5, 3)], [])], [], []⟩, 21⟩
def zR : N := M yS hT 40 [.sh (true, [.sl, .sl, .sl, .sl, .sl]), .sh (false, [.int .i64])] [(false, [.int .i64])] gr Tryz.func40 rfl Tryz.ntmps40 Tryz.call40 (fun _ => by kernel_rfl) fun _ _ _ => by kernel_rfl
def rH : List N := zR :: qQ
def x8 : C := ⟨T, rH, ⟨[2, 3, 4], [2, 3], [], [], [], []⟩, 22⟩
def yQ : N := M x8 hT 130 [.sh (true, [.bool, .sl, .sl]), .sh (true, [.bool, .sl, .sl])] [(true, [.bool, .sl, .sl])] gm Tryz.func130 rfl Tryz.ntmps130 Tryz.call130 (fun _ => by kernel_rfl) fun _ _ _ => by kernel_rfl
def py : List N := yQ :: rH
def uN : C := ⟨T, py, ⟨[2, 3, 4], [2, 3], [], [], [], []⟩, 14⟩
def uJ : N := M uN hT 71 [.sh (true, [.bool, .sl, .sl]), .sh (true, [.bool, .sl, .sl, .bool, .sl, .sl])] [(true, [.bool, .sl, .sl, .bool, .sl, .sl])] gP Tryz.func71 rfl Tryz.ntmps71 Tryz.call71 (fun _ => by kernel_rfl) fun _ _ _ => by kernel_rfl
def lZ : List N := uJ :: py
def aan : C := ⟨T, lZ, ⟨[2, 3, 4], [2, 3], [], [], [], []⟩, 16⟩
def zx : N := M aan hT 69 [.sh (true, [.bool, .sl, .sl, .bool, .sl, .sl]), .sh (true, [.bool, .sl, .sl, .bool, .sl, .sl])] [(true, [.bool, .sl, .sl, .bool, .sl, .sl])] iI Tryz.func69 rfl Tryz.ntmps69 Tryz.call69 (fun _ => by kernel_rfl) fun _ _ _ => by kernel_rfl
def rC : List N := zx :: lZ
def vk : C := ⟨T, rC, ⟨[2, 4, 5], [2, 5, 6], [], [(4, [(6, 3)], [(5, 109)])], [], []⟩, 37⟩
def u6 : N := M vk hT 43 [.sh (true, [.bool, .sl, .sl, .sl]), .sh (false, [.sl])] [(true, [.bool, .sl, .sl, .bool, .sl, .sl])] jR Tryz.func43 rfl Tryz.ntmps43 Tryz.call43 (fun _ => by kernel_rfl) fun _ _ _ => by kernel_rfl
def kZ : List N := u6 :: rC
def ww : C := ⟨T, kZ, ⟨[1, 2], [1], [], [], [], []⟩, 10⟩
def wa : N := M ww hT 74 [.sh (true, [.bool, .sl, .sl, .bool, .sl, .sl])] [(true, [.bool, .sl, .sl, .bool, .sl, .sl])] ja Tryz.func74 rfl Tryz.ntmps74 Tryz.call74 (fun _ => by kernel_rfl) fun _ _ _ => by kernel_rfl
def nh : List N := wa :: kZ
def sE : C := ⟨T, nh, ⟨[3, 5, 6], [3, 6, 8, 11, 18], [], [(2, [(23, 4)], []), (9, [(8, 3)], [])], [], []⟩, 60⟩
def si : N := M sE hT 55 [.sh (true, [.sl, .sl, .sl, .sl, .sl]), .sh (false, [.int .i64]), .sh (true, [.bool, .sl, .sl, .bool, .sl, .sl])] [(true, [.sl, .sl, .sl, .sl, .sl]), (false, [.int .i64])] ex Tryz.func55 rfl Tryz.ntmps55 Tryz.call55 (fun _ => by kernel_rfl) fun _ _ _ => by kernel_rfl
def jI : List N := si :: nh
def vy : C := ⟨T, jI, ⟨[4, 7, 8, 11, 12], [4, 7, 8, 11, 12, 16, 39, 44, 52, 55, 60, 71, 76, 96, 101, 159, 165], [13], [(2, [(22, 4)], []), (9, [], [(11, 54), (12, 54)]), (11, [(68, 4)], []), (15, [(83, 4)], []), (17, [(9, 48), (10, 3)], [(8, 32)]), (19, [(108, 4)], []), (21, [(9, 48), (10, 3)], [(8, 32)]), (23, [(13, 4)], [(4, 32)]), (30, [], [(4, 32)]), (31, [(164, 4)], [])], [], []⟩, 174⟩
def vg : N := M vy hT 23 [.sh (true, [.sl, .sl, .sl, .sl, .sl]), .sh (false, [.int .i64]), .sh (false, [.bool]), .sh (true, [.int .i64, .bool, .sl, .sl, .bool, .sl, .sl])] [(true, [.sl, .sl, .sl, .sl, .sl]), (false, [.sl]), (false, [.int .i64])] kf Tryz.func23 rfl Tryz.ntmps23 Tryz.call23 (fun _ => by kernel_rfl) fun _ _ _ => by kernel_rfl
def kh : List N := vg :: jI
def wG : C := ⟨T, kh, ⟨[], [5, 28], [], [(7, [(5, 3)], []), (12, [(41, 4)], [])], [], []⟩, 42⟩
def wH : N := M wG hT 24 [.sh (false, [.sl]), .sh (false, [.sl])] [(false, [.bool])] jp Tryz.func24 rfl Tryz.ntmps24 Tryz.call24 (fun _ => by kernel_rfl) fun _ _ _ => by kernel_rfl
def m8 : List N := wH :: kh
def vK : C := ⟨T, m8, ⟨[2, 3], [2, 3, 5, 12, 41], [], [(2, [(20, 4)], []), (7, [(5, 3)], []), (12, [(56, 4)], [])], [], []⟩, 57⟩
def xJ : N := M vK hT 45 [.sh (true, [.bool, .sl, .sl, .sl]), .sh (true, [.bool, .sl, .sl, .sl])] [(false, [.bool])] mA Tryz.func45 rfl Tryz.ntmps45 Tryz.call45 (fun _ => by kernel_rfl) fun _ _ _ => by kernel_rfl
def nG : List N := xJ :: m8
def xx : C := ⟨T, nG, ⟨[2, 3], [2, 3, 10], [], [(1, [(4, 4)], [])], [], []⟩, 17⟩
def wP : N := M xx hT 39 [.sh (true, [.bool, .sl, .sl, .bool, .sl, .sl]), .sh (true, [.bool, .sl, .sl, .bool, .sl, .sl])] [(false, [.bool])] eX Tryz.func39 rfl Tryz.ntmps39 Tryz.call39 (fun _ => by kernel_rfl) fun _ _ _ => by kernel_rfl
def nP : List N := wP :: nG
def vD : C := ⟨T, nP, ⟨[2, 3], [2, 3, 5, 6, 7, 8, 9, 17, 26, 35, 44, 129, 165], [], [(2, [(52, 4)], []), (7, [(5, 3)], []), (17, [(6, 3)], []), (27, [(7, 3)], []), (37, [(8, 3)], []), (42, [(144, 4)], []), (47, [(9, 3)], []), (52, [(180, 4)], [])], [], []⟩, 181⟩
def vI : N := M vD hT 14 [.sh (true, [.sl, .sl, .sl, .sl, .sl]), .sh (true, [.sl, .sl, .sl, .sl, .sl])] [(false, [.bool])] jh Tryz.func14 rfl Tryz.ntmps14 Tryz.call14 (fun _ => by kernel_rfl) fun _ _ _ => by kernel_rfl
def nD : List N := vI :: nP
def ux : C := ⟨T, nD, ⟨[2], [2, 12], [], [(1, [(4, 4)], [])], [], []⟩, 27⟩
def vr : N := M ux hT 15 [.sh (true, [.sl, .sl, .sl, .sl, .sl]), .sh (false, [.int .i64])] [(false, [.bool])] gX Tryz.func15 rfl Tryz.ntmps15 Tryz.call15 (fun _ => by kernel_rfl) fun _ _ _ => by kernel_rfl
def ki : List N := vr :: nD
def u5 : C := ⟨T, ki, ⟨[2], [2, 12], [], [(1, [(4, 4)], [])], [], []⟩, 27⟩
def uB : N := M u5 hT 16 [.sh (true, [.sl, .sl, .sl, .sl, .sl]), .sh (false, [.int .i64])] [(false, [.bool])] j6 Tryz.func16 rfl Tryz.ntmps16 Tryz.call16 (fun _ => by kernel_rfl) fun _ _ _ => by kernel_rfl
def lB : List N := uB :: ki
def abO : C := ⟨T, lB, ⟨[2], [2, 12], [], [(1, [(4, 4)], [])], [], []⟩, 27⟩
def ab0 : N := M abO hT 67 [.sh (true, [.sl, .sl, .sl, .sl, .sl]), .sh (false, [.int .i64])] [(false, [.bool])] uV Tryz.func67 rfl Tryz.ntmps67 Tryz.call67 (fun _ => by kernel_rfl) fun _ _ _ => by kernel_rfl
def sN : List N := ab0 :: lB
def vZ : C := ⟨T, sN, ⟨[2], [2, 12], [], [(1, [(4, 4)], [])], [], []⟩, 27⟩
def vS : N := M vZ hT 68 [.sh (true, [.sl, .sl, .sl, .sl, .sl]), .sh (false, [.int .i64])] [(false, [.bool])] jf Tryz.func68 rfl Tryz.ntmps68 Tryz.call68 (fun _ => by kernel_rfl) fun _ _ _ => by kernel_rfl
def nC : List N := vS :: sN
def xR : C := ⟨T, nC, ⟨[1, 2], [1], [], [], [], []⟩, 10⟩
def z7 : N := M xR hT 70 [.sh (true, [.bool, .sl, .sl, .bool, .sl, .sl])] [(true, [.bool, .sl, .sl, .bool, .sl, .sl])] qP Tryz.func70 rfl Tryz.ntmps70 Tryz.call70 (fun _ => by kernel_rfl) fun _ _ _ => by kernel_rfl
def pG : List N := z7 :: nC
def yv : C := ⟨T, pG, ⟨[2, 3, 4], [2, 3, 4], [], [], [], []⟩, 27⟩
def yp : N := M yv hT 72 [.sh (true, [.bool, .sl, .sl]), .sh (true, [.bool, .sl, .sl])] [(true, [.bool, .sl, .sl])] ky Tryz.func72 rfl Tryz.ntmps72 Tryz.call72 (fun _ => by kernel_rfl) fun _ _ _ => by kernel_rfl
def oI : List N := yp :: pG
def xy : C := ⟨T, oI, ⟨[2, 4], [2, 4, 5], [], [(3, [(5, 3)], [(4, 107)])], [], []⟩, 29⟩
def xv : N := M xy hT 132 [.sh (true, [.bool, .sl, .sl, .sl]), .sh (false, [.int .i64])] [(true, [.bool, .sl, .sl])] eT Tryz.func132 rfl Tryz.ntmps132 Tryz.call132 (fun _ => by kernel_rfl) fun _ _ _ => by kernel_rfl
def na : List N := xv :: oI
def yF : C := ⟨T, na, ⟨[3, 4, 5, 6, 7, 12], [3, 4, 5, 7, 8, 9, 10, 11, 12, 30, 42, 48, 78], [], [(1, [], [(7, 85)]), (5, [(8, 28), (9, 3), (10, 3)], []), (7, [(36, 4)], []), (9, [(63, 4)], []), (12, [(10, 3)], []), (13, [(92, 4)], []), (18, [(11, 3)], [(7, 85)]), (22, [], [(7, 85)]), (23, [], [(12, 107)])], [], []⟩, 146⟩
def zd : N := M yF hT 133 [.sh (true, [.bool, .sl, .sl, .sl]), .sh (true, [.bool, .sl, .sl]), .sh (true, [.bool, .sl, .sl, .sl])] [(true, [.bool, .sl, .sl, .sl])] et Tryz.func133 rfl Tryz.ntmps133 Tryz.call133 (fun _ => by kernel_rfl) fun _ _ _ => by kernel_rfl
def rN : List N := zd :: na
def va : C := ⟨T, rN, ⟨[3, 6, 8, 10, 11, 12, 13, 16, 17], [3, 6, 8, 10, 11, 12, 13, 14, 15, 16, 17, 20], [9], [(2, [(26, 4)], []), (12, [], [(11, 85)]), (14, [], [(13, 85)]), (18, [(14, 22), (15, 3)], []), (22, [(14, 22)], []), (28, [], [(17, 85)])], [], []⟩, 128⟩
def uf : N := M va hT 75 [.sh (true, [.sl, .sl, .sl, .sl, .sl]), .sh (false, [.int .i64]), .sh (false, [.int .i64])] [(true, [.sl, .sl, .sl, .sl, .sl]), (false, [.int .i64])] gY Tryz.func75 rfl Tryz.ntmps75 Tryz.call75 (fun _ => by kernel_rfl) fun _ _ _ => by kernel_rfl
def lE : List N := uf :: rN
def wq : C := ⟨T, lE, ⟨[1, 2, 8, 11, 12, 14, 15, 16], [1, 2, 5, 6, 7, 8, 9, 10, 11, 12, 13, 14, 15, 16, 22, 27, 32, 100, 106, 109, 140, 149], [], [(3, [(5, 3)], []), (5, [(39, 4)], []), (14, [], [(8, 54)]), (20, [(9, 48), (10, 3)], [(2, 32), (1, 32)]), (29, [(115, 4)], []), (31, [], [(14, 109)]), (32, [], [(15, 109)]), (37, [], [(16, 88)]), (40, [], [(16, 88)])], [], []⟩, 191⟩
def vU : N := M wq hT 26 [.sh (true, [.sl, .sl, .sl, .sl, .sl])] [(true, [.sl, .sl, .sl, .sl, .sl]), (false, [.int .i64]), (false, [.sl])] mF Tryz.func26 rfl Tryz.ntmps26 Tryz.call26 (fun _ => by kernel_rfl) fun _ _ _ => by kernel_rfl
def nF : List N := vU :: lE
def zK : C := ⟨T, nF, ⟨[], [], [], [], [], []⟩, 9⟩
def z9 : N := M zK hT 134 [.sh (false, [.sl])] [(false, [.bool])] iO Tryz.func134 rfl Tryz.ntmps134 Tryz.call134 (fun _ => by kernel_rfl) fun _ _ _ => by kernel_rfl
def rS : List N := z9 :: nF
def vw : C := ⟨T, rS, ⟨[1], [1, 9, 15, 30], [], [(2, [(3, 4)], []), (7, [(2, 4)], [])], [], []⟩, 44⟩
def uL : N := M vw hT 78 [.sh (true, [.bool, .sl, .sl])] [(false, [.bool])] ct Tryz.func78 rfl Tryz.ntmps78 Tryz.call78 (fun _ => by kernel_rfl) fun _ _ _ => by kernel_rfl
def lV : List N := uL :: rS
def kS : C := ⟨T, lV, ⟨[1], [1, 6], [], [(1, [(2, 4)], [])], [], []⟩, 11⟩
def kX : N := M kS hT 77 [.sh (true, [.bool, .sl, .sl, .bool, .sl, .sl])] [(false, [.bool])] ij Tryz.func77 rfl Tryz.ntmps77 Tryz.call77 (fun _ => by kernel_rfl) fun _ _ _ => by kernel_rfl
def fY : List N := kX :: lV
def lS : C := ⟨T, fY, ⟨[2], [], [], [], [], [(4, 77, 0)]⟩, 8⟩
def kP : N := M lS hT 80 [.sh (true, [.bool, .sl, .sl, .bool, .sl, .sl]), .sh (false, [.adr])] [(false, [.bool])] dd Tryz.func80 rfl Tryz.ntmps80 Tryz.call80 (fun _ => by kernel_rfl) fun _ _ _ => by kernel_rfl
def fW : List N := kP :: fY
def bE : C := ⟨T, fW, ⟨[], [5, 8], [], [(3, [(8, 3)], [])], [], [(11, 80, 1)]⟩, 19⟩
def bF : N := M bE hT 137 [.sh (false, [.sl]), .fn 80 [] 1] [(false, [.int .i64])] aR Tryz.func137 rfl Tryz.ntmps137 Tryz.call137 (fun _ => by kernel_rfl) fun _ _ _ => by kernel_rfl
def aP : List N := bF :: fW
def bj : C := ⟨T, aP, ⟨[], [], [], [], [], []⟩, 9⟩
def bp : N := M bj hT 79 [.sh (false, [.sl]), .fn 80 [] 1] [(false, [.bool])] aw Tryz.func79 rfl Tryz.ntmps79 Tryz.call79 (fun _ => by kernel_rfl) fun _ _ _ => by kernel_rfl
def aK : List N := bp :: aP
def dU : C := ⟨T, aK, ⟨[], [0, 1], [], [(1, [], []), (4, [(0, 30)], [])], [], []⟩, 27⟩
def dT : N := M dU hT 139 [.sh (false, [.sl]), .sh (false, [.int .i64])] [(false, [.sl])] bH Tryz.func139 rfl Tryz.ntmps139 Tryz.call139 (fun _ => by kernel_rfl) fun _ _ _ => by kernel_rfl
def cm : List N := dT :: aK
def dt : C := ⟨T, cm, ⟨[], [3, 6, 9, 11, 25, 27], [5, 8], [(4, [(3, 3), (11, 3)], []), (8, [(3, 3)], []), (16, [(6, 30), (27, 3)], [])], [], []⟩, 36⟩
def dl : N := M dt hT 82 [.sh (false, [.sl])] [(false, [.sl])] bm Tryz.func82 rfl Tryz.ntmps82 Tryz.call82 (fun _ => by kernel_rfl) fun _ _ _ => by kernel_rfl
def b7 : List N := dl :: cm
def rY : C := ⟨T, b7, ⟨[2, 3], [], [], [], [], []⟩, 9⟩
def su : N := M rY hT 89 [.sh (true, [.bool, .sl, .sl, .bool, .sl, .sl]), .sh (true, [.bool, .sl, .sl, .bool, .sl, .sl])] [(false, [.bool])] fJ Tryz.func89 rfl Tryz.ntmps89 Tryz.call89 (fun _ => by kernel_rfl) fun _ _ _ => by kernel_rfl
def jC : List N := su :: b7
def rW : C := ⟨T, jC, ⟨[1], [1, 10, 28], [], [(4, [(2, 4)], []), (5, [(2, 4)], [])], [], []⟩, 34⟩
def sw : N := M rW hT 84 [.sh (true, [.int .i64, .bool, .sl, .sl, .bool, .sl, .sl])] [(false, [.bool])] iE Tryz.func84 rfl Tryz.ntmps84 Tryz.call84 (fun _ => by kernel_rfl) fun _ _ _ => by kernel_rfl
def jE : List N := sw :: jC
def kB : C := ⟨T, jE, ⟨[1], [], [], [], [], []⟩, 6⟩
def lh : N := M kB hT 83 [.sh (true, [.int .i64, .bool, .sl, .sl, .bool, .sl, .sl])] [(false, [.bool])] eJ Tryz.func83 rfl Tryz.ntmps83 Tryz.call83 (fun _ => by kernel_rfl) fun _ _ _ => by kernel_rfl
def fP : List N := lh :: jE
def bL : C := ⟨T, fP, ⟨[], [5, 8], [], [(3, [(8, 3)], [])], [], [(11, 83, 0)]⟩, 19⟩
def bM : N := M bL hT 138 [.sh (false, [.sl]), .fn 83 [] 0] [(false, [.int .i64])] aV Tryz.func138 rfl Tryz.ntmps138 Tryz.call138 (fun _ => by kernel_rfl) fun _ _ _ => by kernel_rfl
def aS : List N := bM :: fP
def bA : C := ⟨T, aS, ⟨[], [], [], [], [], []⟩, 9⟩
def bD : N := M bA hT 81 [.sh (false, [.sl]), .fn 83 [] 0] [(false, [.bool])] aB Tryz.func81 rfl Tryz.ntmps81 Tryz.call81 (fun _ => by kernel_rfl) fun _ _ _ => by kernel_rfl
def aL : List N := bD :: aS
def sA : C := ⟨T, aL, ⟨[1, 5], [1, 5, 7, 9, 17, 23], [3], [(4, [(3, 3), (9, 3)], []), (11, [(28, 4)], [])], [], []⟩, 35⟩
def rZ : N := M sA hT 86 [.sh (true, [.bool, .sl, .sl, .sl])] [(false, [.bool])] i8 Tryz.func86 rfl Tryz.ntmps86 Tryz.call86 (fun _ => by kernel_rfl) fun _ _ _ => by kernel_rfl
def jy : List N := rZ :: aL
def lC : C := ⟨T, jy, ⟨[3], [3, 9], [], [(1, [(4, 4)], [])], [], []⟩, 16⟩
def lK : N := M lC hT 85 [.sh (true, [.int .i64, .bool, .sl, .sl]), .sh (false, [.adr]), .sh (false, [.adr])] [(false, [.bool])] eL Tryz.func85 rfl Tryz.ntmps85 Tryz.call85 (fun _ => by kernel_rfl) fun _ _ _ => by kernel_rfl
def fK : List N := lK :: jy
def bN : C := ⟨T, fK, ⟨[], [5, 8], [], [(3, [(8, 3)], [])], [], []⟩, 19⟩
def bK : N := M bN hT 57 [.sh (false, [.sl]), .fn 85 [] 2] [(false, [.int .i64])] aU Tryz.func57 rfl Tryz.ntmps57 Tryz.call57 (fun _ => by kernel_rfl) fun _ _ _ => by kernel_rfl
def aQ : List N := bK :: fK
def bw : C := ⟨T, aQ, ⟨[], [], [], [], [], []⟩, 9⟩
def bB : N := M bw hT 88 [.sh (false, [.sl]), .fn 85 [] 2] [(false, [.bool])] aA Tryz.func88 rfl Tryz.ntmps88 Tryz.call88 (fun _ => by kernel_rfl) fun _ _ _ => by kernel_rfl
def aM : List N := bB :: aQ
def qC : C := ⟨T, aM, ⟨[4, 6, 8], [6, 8, 10, 12], [], [(3, [(12, 3)], [(6, 45)])], [], []⟩, 30⟩
def pR : N := M qC hT 90 [.sh (false, [.ptr]), .sh (true, [.bool, .sl, .sl, .sl]), .sh (false, [.sl])] [(true, [.bool, .sl, .sl, .bool, .sl, .sl])] gR Tryz.func90 rfl Tryz.ntmps90 Tryz.call90 (fun _ => by kernel_rfl) fun _ _ _ => by kernel_rfl
def iM : List N := pR :: aM
def pd : C := ⟨T, iM, ⟨[9], [1, 3, 5, 6, 9, 21, 28, 36, 38, 45, 50, 62, 73, 75, 84, 90, 96], [4, 7, 8, 10], [(3, [(34, 4)], []), (8, [(38, 3)], []), (14, [(56, 4)], []), (19, [(70, 4)], []), (25, [(75, 3)], []), (32, [(113, 4)], [])], [], []⟩, 115⟩
def qN : N := M pd hT 27 [.sh (true, [.sl, .sl, .sl, .sl, .sl])] [(false, [.bool])] ia Tryz.func27 rfl Tryz.ntmps27 Tryz.call27 (fun _ => by kernel_rfl) fun _ _ _ => by kernel_rfl
def rz : List N := qN :: iM
def j8 : C := ⟨T, rz, ⟨[7, 10, 12, 15, 22], [7, 8, 9, 10, 12, 13, 14, 15, 18, 19, 20, 21, 22, 39, 41, 48, 66, 71, 90, 96, 106, 116, 121, 130, 135, 141], [16, 17, 23, 24], [(11, [(9, 0)], [(10, 32)]), (14, [(41, 3)], [(10, 32)]), (18, [], [(10, 32)]), (27, [(6, 4)], []), (31, [(101, 4)], []), (35, [(18, 3)], [(10, 32)]), (44, [(6, 4)], []), (48, [(146, 4)], [])], [], []⟩, 152⟩
theorem io (reals : Int) (rows : Sl) (acts : Sl) (w : World) (m : Heap) (hr : Rel ⟨m, []⟩ w.heap) (S : Bool → Heap → Prop) (H : dQ reals rows acts m S) : Calls Tryz.prog 5 #[Value.int .i64 reals, Sl.toV rows, Sl.toV acts] w (Post ⟨w, m⟩ Value.bool S) := cast (by kernel_rfl) (afe j8 (tf hT hmix) hT hmix 5 [.sh (false, [.int .i64]), .sh (false, [.sl]), .sh (false, [.sl])] [(false, [.bool])] dQ Tryz.func5 rfl Tryz.ntmps5 (fun _ => by kernel_rfl) (fun _ _ _ => by kernel_rfl) (reals, rows, acts, ()) w m S hr H)
end
end Go.Proofs.YtlclchgingkkhaaGreatDoor

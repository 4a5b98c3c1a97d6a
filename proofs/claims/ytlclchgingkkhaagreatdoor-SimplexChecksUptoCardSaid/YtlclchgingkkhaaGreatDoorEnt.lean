/-
  Laws that the proof of this claim's statement leans on, each proved under the conditions that it states.
-/
import Derived.Test.YtlclchgingkkhaaGreatDoorProg
import Derived.Test.YtlclchgingkkhaaGreatDoorSh
import Derived.Test.YtlclchgingkkhaaGreatDoorVE
set_option linter.unusedVariables false
set_option linter.unusedSimpArgs false
namespace Go.Proofs.YtlclchgingkkhaaGreatDoor
open Go Go.Lift Go.Sh
set_option maxRecDepth 100000
noncomputable section
def T : TTab := [(2, .int .i64, 1, 8, [Value.int .i64 0]), (3, .int .i64, 1, 8, [Value.int .i64 0]), (4, .bool, 1, 1, [Value.bool false]), (5, .int .u8, 1, 1, [Value.int .u8 0]), (22, .slice 85, 1, 24, [Sl.toV Sl.nil]), (23, .slice 47, 1, 24, [Sl.toV Sl.nil]), (26, .pointer 92, 1, 8, [Value.pointer none]), (28, .slice 3, 1, 24, [Sl.toV Sl.nil]), (29, .slice 45, 1, 24, [Sl.toV Sl.nil]), (30, .slice 54, 1, 24, [Sl.toV Sl.nil]), (32, .struct #[⟨ "Basic", 28, 0, false, "", "", 0⟩, ⟨ "Rows", 22, 1, false, "", "", 24⟩, ⟨ "Values", 29, 2, false, "", "", 48⟩, ⟨ "Lower", 30, 3, false, "", "", 72⟩, ⟨ "Upper", 30, 4, false, "", "", 96⟩], 5, 120, [Sl.toV Sl.nil, Sl.toV Sl.nil, Sl.toV Sl.nil, Sl.toV Sl.nil, Sl.toV Sl.nil]), (34, .slice 264, 1, 24, [Sl.toV Sl.nil]), (35, .slice 28, 1, 24, [Sl.toV Sl.nil]), (37, .struct #[⟨ "Bools", 3, 0, false, "", "", 0⟩, ⟨ "Reals", 3, 1, false, "", "", 8⟩, ⟨ "Rows", 22, 2, false, "", "", 16⟩, ⟨ "Atoms", 34, 3, false, "", "", 40⟩, ⟨ "Clauses", 35, 4, false, "", "", 64⟩, ⟨ "Lits", 28, 5, false, "", "", 88⟩, ⟨ "Polys", 22, 6, false, "", "", 112⟩], 7, 136, [Value.int .i64 0, Value.int .i64 0, Sl.toV Sl.nil, Sl.toV Sl.nil, Sl.toV Sl.nil, Sl.toV Sl.nil, Sl.toV Sl.nil]), (39, .slice 118, 1, 24, [Sl.toV Sl.nil]), (41, .struct #[⟨ "Neg", 4, 0, false, "", "", 0⟩, ⟨ "Mag", 39, 1, false, "", "", 8⟩], 2, 32, [Value.bool false, Sl.toV Sl.nil]), (43, .struct #[⟨ "Num", 41, 0, false, "", "", 0⟩, ⟨ "Den", 39, 2, false, "", "", 32⟩], 3, 56, [Value.bool false, Sl.toV Sl.nil, Sl.toV Sl.nil]), (45, .struct #[⟨ "A", 43, 0, false, "", "", 0⟩, ⟨ "B", 43, 3, false, "", "", 56⟩], 6, 112, [Value.bool false, Sl.toV Sl.nil, Sl.toV Sl.nil, Value.bool false, Sl.toV Sl.nil, Sl.toV Sl.nil]), (47, .struct #[⟨ "Check", 4, 0, false, "", "", 0⟩, ⟨ "V", 3, 1, false, "", "", 8⟩, ⟨ "Lit", 3, 2, false, "", "", 16⟩, ⟨ "Upper", 4, 3, false, "", "", 24⟩, ⟨ "At", 45, 4, false, "", "", 32⟩], 10, 144, [Value.bool false, Value.int .i64 0, Value.int .i64 0, Value.bool false, Value.bool false, Sl.toV Sl.nil, Sl.toV Sl.nil, Value.bool false, Sl.toV Sl.nil, Sl.toV Sl.nil]), (48, .slice 88, 1, 24, [Sl.toV Sl.nil]), (49, .int .i64, 1, 8, [Value.int .i64 0]), (52, .pointer 32, 1, 8, [Value.pointer none]), (54, .struct #[⟨ "Lit", 3, 0, false, "", "", 0⟩, ⟨ "At", 45, 1, false, "", "", 8⟩], 7, 120, [Value.int .i64 0, Value.bool false, Sl.toV Sl.nil, Sl.toV Sl.nil, Value.bool false, Sl.toV Sl.nil, Sl.toV Sl.nil]), (71, .slice 43, 1, 24, [Sl.toV Sl.nil]), (82, .struct #[⟨ "Var", 3, 0, false, "", "", 0⟩, ⟨ "Coef", 43, 1, false, "", "", 8⟩], 4, 64, [Value.int .i64 0, Value.bool false, Sl.toV Sl.nil, Sl.toV Sl.nil]), (83, .slice 82, 1, 24, [Sl.toV Sl.nil]), (85, .struct #[⟨ "Const", 43, 0, false, "", "", 0⟩, ⟨ "Monos", 83, 3, false, "", "", 56⟩], 4, 80, [Value.bool false, Sl.toV Sl.nil, Sl.toV Sl.nil, Sl.toV Sl.nil]), (88, .struct #[⟨ "Lit", 3, 0, false, "", "", 0⟩, ⟨ "Coef", 43, 1, false, "", "", 8⟩], 4, 64, [Value.int .i64 0, Value.bool false, Sl.toV Sl.nil, Sl.toV Sl.nil]), (92, .struct #[⟨ "limbs", 3, 0, false, "", "steelyard/nat", 0⟩, ⟨ "over", 4, 1, false, "", "steelyard/nat", 8⟩], 2, 16, [Value.int .i64 0, Value.bool false]), (95, .struct #[⟨ "edges", 30, 0, false, "", "steelyard/simplex", 0⟩, ⟨ "sign", 3, 1, false, "", "steelyard/simplex", 24⟩], 2, 32, [Sl.toV Sl.nil, Value.int .i64 0]), (105, .slice 3, 1, 24, [Sl.toV Sl.nil]), (107, .struct #[⟨ "Neg", 4, 0, false, "", "", 0⟩, ⟨ "Num", 105, 1, false, "", "", 8⟩, ⟨ "Den", 105, 2, false, "", "", 32⟩], 3, 56, [Value.bool false, Sl.toV Sl.nil, Sl.toV Sl.nil]), (109, .struct #[⟨ "A", 107, 0, false, "", "", 0⟩, ⟨ "B", 107, 3, false, "", "", 56⟩], 6, 112, [Value.bool false, Sl.toV Sl.nil, Sl.toV Sl.nil, Value.bool false, Sl.toV Sl.nil, Sl.toV Sl.nil]), (118, .int .u32, 1, 4, [Value.int .u32 0]), (134, .func #[82] #[4] false, 1, 8, [Value.nilFunc]), (138, .func #[26, 43, 43] #[43] false, 1, 8, [Value.nilFunc]), (155, .int .u64, 1, 8, [Value.int .u64 0]), (184, .array 2 4, 2, 2, [Value.bool false, Value.bool false]), (205, .int .u64, 1, 8, [Value.int .u64 0]), (210, .func #[82, 3] #[3] false, 1, 8, [Value.nilFunc]), (243, .array 2 39, 2, 48, [Sl.toV Sl.nil, Sl.toV Sl.nil]), (247, .array 32 5, 32, 32, [Value.int .u8 0, Value.int .u8 0, Value.int .u8 0, Value.int .u8 0, Value.int .u8 0, Value.int .u8 0, Value.int .u8 0, Value.int .u8 0, Value.int .u8 0, Value.int .u8 0, Value.int .u8 0, Value.int .u8 0, Value.int .u8 0, Value.int .u8 0, Value.int .u8 0, Value.int .u8 0, Value.int .u8 0, Value.int .u8 0, Value.int .u8 0, Value.int .u8 0, Value.int .u8 0, Value.int .u8 0, Value.int .u8 0, Value.int .u8 0, Value.int .u8 0, Value.int .u8 0, Value.int .u8 0, Value.int .u8 0, Value.int .u8 0, Value.int .u8 0, Value.int .u8 0, Value.int .u8 0]), (264, .struct #[⟨ "Bool", 3, 0, false, "", "", 0⟩, ⟨ "Var", 3, 1, false, "", "", 8⟩, ⟨ "Row", 3, 2, false, "", "", 16⟩, ⟨ "Bound", 45, 3, false, "", "", 24⟩], 9, 136, [Value.int .i64 0, Value.int .i64 0, Value.int .i64 0, Value.bool false, Sl.toV Sl.nil, Sl.toV Sl.nil, Value.bool false, Sl.toV Sl.nil, Sl.toV Sl.nil])]
theorem hT : TTab.Ok Tryz.prog T := TTab.ok_cons (by kernel_rfl) (by kernel_rfl) (TTab.ok_cons (by kernel_rfl) (by kernel_rfl) (TTab.ok_cons (by kernel_rfl) (by kernel_rfl) (TTab.ok_cons (by kernel_rfl) (by kernel_rfl) (TTab.ok_cons (by kernel_rfl) (by kernel_rfl) (TTab.ok_cons (by kernel_rfl) (by kernel_rfl) (TTab.ok_cons (by kernel_rfl) (by kernel_rfl) (TTab.ok_cons (by kernel_rfl) (by kernel_rfl) (TTab.ok_cons (by kernel_rfl) (by kernel_rfl) (TTab.ok_cons (by kernel_rfl) (by kernel_rfl) (TTab.ok_cons (by kernel_rfl) (by kernel_rfl) (TTab.ok_cons (by kernel_rfl) (by kernel_rfl) (TTab.ok_cons (by kernel_rfl) (by kernel_rfl) (TTab.ok_cons (by kernel_rfl) (by kernel_rfl) (TTab.ok_cons (by kernel_rfl) (by kernel_rfl) (TTab.ok_cons (by kernel_rfl) (by kernel_rfl) (TTab.ok_cons (by kernel_rfl) (by kernel_rfl) (TTab.ok_cons (by kernel_rfl) (by kernel_rfl) (TTab.ok_cons (by kernel_rfl) (by kernel_rfl) (TTab.ok_cons (by kernel_rfl) (by kernel_rfl) (TTab.ok_cons (by kernel_rfl) (by kernel_rfl) (TTab.ok_cons (by kernel_rfl) (by kernel_rfl) (TTab.ok_cons (by kernel_rfl) (by kernel_rfl) (TTab.ok_cons (by kernel_rfl) (by kernel_rfl) (TTab.ok_cons (by kernel_rfl) (by kernel_rfl) (TTab.ok_cons (by kernel_rfl) (by kernel_rfl) (TTab.ok_cons (by kernel_rfl) (by kernel_rfl) (TTab.ok_cons (by kernel_rfl) (by kernel_rfl) (TTab.ok_cons (by kernel_rfl) (by kernel_rfl) (TTab.ok_cons (by kernel_rfl) (by kernel_rfl) (TTab.ok_cons (by kernel_rfl) (by kernel_rfl) (TTab.ok_cons (by kernel_rfl) (by kernel_rfl) (TTab.ok_cons (by kernel_rfl) (by kernel_rfl) (TTab.ok_cons (by kernel_rfl) (by kernel_rfl) (TTab.ok_cons (by kernel_rfl) (by kernel_rfl) (TTab.ok_cons (by kernel_rfl) (by kernel_rfl) (TTab.ok_cons (by kernel_rfl) (by kernel_rfl) (TTab.ok_cons (by kernel_rfl) (by kernel_rfl) (TTab.ok_cons (by kernel_rfl) (by kernel_rfl) (TTab.ok_cons (by kernel_rfl) (by kernel_rfl) (TTab.ok_cons (by kernel_rfl) (by kernel_rfl) (TTab.ok_cons (by kernel_rfl) (by kernel_rfl) (TTab.ok_cons (by kernel_rfl) (by kernel_rfl) (TTab.ok_nil _)))))))))))))))))))))))))))))))))))))))))))
theorem hmix : Tryz.prog.follows .mixedOrders = true := by kernel_rfl
abbrev C := Ctx Tryz.prog
abbrev N := Ent Tryz.prog
abbrev M (c : C) (h : TTab.Ok Tryz.prog c.T) := @adC _ c (stgD c) (pI h hmix) h hmix
def t_0 : List N := []
def yO : C := ⟨T, t_0, ⟨[], [0, 6], [], [(2, [(0, 39)], []), (4, [(14, 4)], [])], [], []⟩, 21⟩
def yK : N := M yO hT 140 [.sh (false, [.sl])] [(false, [.sl])] aM Tryz.func140 rfl Tryz.ntmps140 Tryz.call140 (fun _ => by kernel_rfl) fun _ _ _ => by kernel_rfl
def pp : List N := yK :: t_0
def abj : C := ⟨T, pp, ⟨[], [], [], [], [], []⟩, 10⟩
def abl : N := M abj hT 91 [.sh (false, [.int .u64])] [(false, [.sl])] jm Tryz.func91 rfl Tryz.ntmps91 Tryz.call91 (fun _ => by kernel_rfl) fun _ _ _ => by kernel_rfl
def xC : List N := abl :: pp
def yc : C := ⟨T, xC, ⟨[2], [3], [], [(2, [(3, 155)], [])], [], []⟩, 16⟩
def xP : N := M yc hT 28 [.sh (false, [.int .i64])] [(true, [.bool, .sl, .sl])] cr Tryz.func28 rfl Tryz.ntmps28 Tryz.call28 (fun _ => by kernel_rfl) fun _ _ _ => by kernel_rfl
def o0 : List N := xP :: xC
def cG : C := ⟨T, o0, ⟨[], [], [], [], [], []⟩, 8⟩
def cH : N := M cG hT 32 [.sh (false, [.sl])] [(false, [.sl])] aL Tryz.func32 rfl Tryz.ntmps32 Tryz.call32 (fun _ => by kernel_rfl) fun _ _ _ => by kernel_rfl
def bq : List N := cH :: o0
def qW : C := ⟨T, bq, ⟨[1, 2], [1, 2, 3, 14, 31, 33, 35], [4], [(4, [(14, 3)], [(2, 32)]), (11, [], [(2, 32)])], [], []⟩, 41⟩
def re : N := M qW hT 9 [.sh (true, [.int .i64, .int .i64, .sl, .sl, .sl, .sl, .sl])] [(true, [.sl, .sl, .sl, .sl, .sl])] fC Tryz.func9 rfl Tryz.ntmps9 Tryz.call9 (fun _ => by kernel_rfl) fun _ _ _ => by kernel_rfl
def jc : List N := re :: bq
def zF : C := ⟨T, jc, ⟨[], [], [], [], [], []⟩, 7⟩
def aak : N := M zF hT 8 [.sh (false, [.int .i64])] [(false, [.ptr])] mN Tryz.func8 rfl Tryz.ntmps8 Tryz.call8 (fun _ => by kernel_rfl) fun _ _ _ => by kernel_rfl
def ui : List N := aak :: jc
def yf : C := ⟨T, ui, ⟨[2], [], [], [], [], []⟩, 6⟩
def xM : N := M yf hT 29 [.sh (false, [.int .i64])] [(true, [.bool, .sl, .sl, .bool, .sl, .sl])] js Tryz.func29 rfl Tryz.ntmps29 Tryz.call29 (fun _ => by kernel_rfl) fun _ _ _ => by kernel_rfl
def pB : List N := xM :: ui
def tJ : C := ⟨T, pB, ⟨[4], [4], [], [], [], []⟩, 16⟩
def sH : N := M tJ hT 33 [.sh (false, [.ptr]), .sh (false, [.bool])] [(true, [.sl, .int .i64])] bU Tryz.func33 rfl Tryz.ntmps33 Tryz.call33 (fun _ => by kernel_rfl) fun _ _ _ => by kernel_rfl
def kJ : List N := sH :: pB
def vN : C := ⟨T, kJ, ⟨[], [], [], [], [], []⟩, 2⟩
def vU : N := M vN hT 158 [] [(false, [.sl])] jz Tryz.func158 rfl Tryz.ntmps158 Tryz.call158 (fun _ => by kernel_rfl) fun _ _ _ => by kernel_rfl
def nG : List N := vU :: kJ
def wI : C := ⟨T, nG, ⟨[1], [1], [], [], [], []⟩, 10⟩
def u9 : N := M wI hT 123 [.sh (true, [.bool, .sl, .sl])] [(false, [.sl])] bM Tryz.func123 rfl Tryz.ntmps123 Tryz.call123 (fun _ => by kernel_rfl) fun _ _ _ => by kernel_rfl
def m9 : List N := u9 :: nG
def tN : C := ⟨T, m9, ⟨[], [], [], [], [], []⟩, 2⟩
def tn : N := M tN hT 119 [] [(false, [.ptr])] cg Tryz.func119 rfl Tryz.ntmps119 Tryz.call119 (fun _ => by kernel_rfl) fun _ _ _ => by kernel_rfl
def kI : List N := tn :: m9
def wM : C := ⟨T, kI, ⟨[], [5, 6, 8, 9, 15, 17, 19, 24, 26], [7, 10], [(4, [(19, 3)], []), (13, [(8, 155), (26, 3)], [])], [], []⟩, 66⟩
def vS : N := M wM hT 155 [.sh (false, [.sl]), .sh (false, [.sl])] [(false, [.sl])] gt Tryz.func155 rfl Tryz.ntmps155 Tryz.call155 (fun _ => by kernel_rfl) fun _ _ _ => by kernel_rfl
def og : List N := vS :: kI
def de : C := ⟨T, og, ⟨[], [], [], [], [], []⟩, 8⟩
def dd : N := M de hT 153 [.sh (false, [.sl])] [(false, [.sl])] ar Tryz.func153 rfl Tryz.ntmps153 Tryz.call153 (fun _ => by kernel_rfl) fun _ _ _ => by kernel_rfl
def bB : List N := dd :: og
def nU : C := ⟨T, bB, ⟨[], [1, 12], [], [(2, [], [])], [], []⟩, 29⟩
def lJ : N := M nU hT 154 [.sh (false, [.ptr]), .sh (false, [.sl])] [(false, [.sl])] aX Tryz.func154 rfl Tryz.ntmps154 Tryz.call154 (fun _ => by kernel_rfl) fun _ _ _ => by kernel_rfl
def f6 : List N := lJ :: bB
def nS : C := ⟨T, f6, ⟨[], [], [], [], [], []⟩, 14⟩
def nQ : N := M nS hT 120 [.sh (false, [.ptr]), .sh (false, [.sl]), .sh (false, [.sl])] [(false, [.sl])] aR Tryz.func120 rfl Tryz.ntmps120 Tryz.call120 (fun _ => by kernel_rfl) fun _ _ _ => by kernel_rfl
def gd : List N := nQ :: f6
def tV : C := ⟨T, gd, ⟨[2, 4], [2], [], [], [], []⟩, 13⟩
def sN : N := M tV hT 166 [.sh (true, [.bool, .sl]), .sh (false, [.sl])] [(true, [.bool, .sl])] gT Tryz.func166 rfl Tryz.ntmps166 Tryz.call166 (fun _ => by kernel_rfl) fun _ _ _ => by kernel_rfl
def kw : List N := sN :: gd
def p5 : C := ⟨T, kw, ⟨[2, 3, 4, 5], [2, 3], [], [], [], []⟩, 16⟩
def qQ : N := M p5 hT 141 [.sh (true, [.bool, .sl, .sl]), .sh (true, [.bool, .sl, .sl])] [(true, [.bool, .sl]), (true, [.bool, .sl])] fv Tryz.func141 rfl Tryz.ntmps141 Tryz.call141 (fun _ => by kernel_rfl) fun _ _ _ => by kernel_rfl
def iH : List N := qQ :: kw
def xK : C := ⟨T, iH, ⟨[], [4, 5, 6, 8, 14, 20], [], [(4, [(4, 39), (5, 155), (14, 3)], []), (12, [(5, 155), (20, 3)], []), (16, [(5, 155)], [])], [], []⟩, 48⟩
def xH : N := M xK hT 177 [.sh (false, [.sl]), .sh (false, [.sl])] [(false, [.sl])] gO Tryz.func177 rfl Tryz.ntmps177 Tryz.call177 (fun _ => by kernel_rfl) fun _ _ _ => by kernel_rfl
def ph : List N := xH :: iH
def mL : C := ⟨T, ph, ⟨[], [], [], [], [], []⟩, 12⟩
def lI : N := M mL hT 156 [.sh (false, [.ptr]), .sh (false, [.sl]), .sh (false, [.sl])] [(false, [.sl])] bz Tryz.func156 rfl Tryz.ntmps156 Tryz.call156 (fun _ => by kernel_rfl) fun _ _ _ => by kernel_rfl
def fZ : List N := lI :: ph
def ym : C := ⟨T, fZ, ⟨[], [], [], [], [], []⟩, 6⟩
def xQ : N := M ym hT 183 [.sh (false, [.int .i64])] [(false, [.int .i64])] i0 Tryz.func183 rfl Tryz.ntmps183 Tryz.call183 (fun _ => by kernel_rfl) fun _ _ _ => by kernel_rfl
def pw : List N := xQ :: fZ
def aaE : C := ⟨T, pw, ⟨[], [0, 1, 5], [], [(8, [(5, 3)], [])], [], []⟩, 49⟩
def zh : N := M aaE hT 167 [.sh (false, [.sl]), .sh (false, [.sl])] [(false, [.int .i64])] fF Tryz.func167 rfl Tryz.ntmps167 Tryz.call167 (fun _ => by kernel_rfl) fun _ _ _ => by kernel_rfl
def sf : List N := zh :: pw
def uo : C := ⟨T, sf, ⟨[], [4, 6, 8, 9, 11], [5, 7], [(4, [(4, 39), (5, 155), (11, 3)], []), (11, [(8, 155)], [])], [], []⟩, 41⟩
def uN : N := M uo hT 181 [.sh (false, [.sl]), .sh (false, [.sl])] [(false, [.sl])] dD Tryz.func181 rfl Tryz.ntmps181 Tryz.call181 (fun _ => by kernel_rfl) fun _ _ _ => by kernel_rfl
def lH : List N := uN :: sf
def mq : C := ⟨T, lH, ⟨[], [], [], [], [], []⟩, 17⟩
def nL : N := M mq hT 168 [.sh (false, [.ptr]), .sh (false, [.sl]), .sh (false, [.sl])] [(false, [.sl])] bQ Tryz.func168 rfl Tryz.ntmps168 Tryz.call168 (fun _ => by kernel_rfl) fun _ _ _ => by kernel_rfl
def gn : List N := nL :: lH
def vy : C := ⟨T, gn, ⟨[2, 3, 4], [2, 3, 4, 5], [], [], [], []⟩, 47⟩
def ux : N := M vy hT 142 [.sh (true, [.bool, .sl]), .sh (true, [.bool, .sl])] [(true, [.bool, .sl])] iY Tryz.func142 rfl Tryz.ntmps142 Tryz.call142 (fun _ => by kernel_rfl) fun _ _ _ => by kernel_rfl
def mr : List N := ux :: gn
def uI : C := ⟨T, mr, ⟨[2, 3, 5, 6, 7], [5, 6, 7, 8], [], [], [], []⟩, 29⟩
def uJ : N := M uI hT 94 [.sh (true, [.bool, .sl, .sl]), .sh (true, [.bool, .sl, .sl])] [(false, [.int .i64])] gf Tryz.func94 rfl Tryz.ntmps94 Tryz.call94 (fun _ => by kernel_rfl) fun _ _ _ => by kernel_rfl
def mT : List N := uJ :: mr
def uy : C := ⟨T, mT, ⟨[2, 3], [2, 3, 5], [], [], [], []⟩, 19⟩
def u7 : N := M uy hT 34 [.sh (true, [.bool, .sl, .sl, .bool, .sl, .sl]), .sh (true, [.bool, .sl, .sl, .bool, .sl, .sl])] [(false, [.int .i64])] fX Tryz.func34 rfl Tryz.ntmps34 Tryz.call34 (fun _ => by kernel_rfl) fun _ _ _ => by kernel_rfl
def mU : List N := u7 :: mT
def f8 : C := ⟨T, mU, ⟨[3, 5, 7], [3, 7, 16], [], [(2, [(6, 4)], [])], [], []⟩, 26⟩
def gu : N := M f8 hT 35 [.sh (true, [.sl, .int .i64]), .sh (false, [.int .i64]), .sh (true, [.bool, .sl, .sl, .bool, .sl, .sl])] [(false, [.bool])] bb Tryz.func35 rfl Tryz.ntmps35 Tryz.call35 (fun _ => by kernel_rfl) fun _ _ _ => by kernel_rfl
def da : List N := gu :: mU
def fO : C := ⟨T, da, ⟨[], [5, 8], [], [(3, [(8, 3)], [])], [], []⟩, 19⟩
def fP : N := M fO hT 95 [.sh (false, [.sl]), .sh (false, [.int .i64])] [(false, [.int .i64])] bW Tryz.func95 rfl Tryz.ntmps95 Tryz.call95 (fun _ => by kernel_rfl) fun _ _ _ => by kernel_rfl
def cJ : List N := fP :: da
def qB : C := ⟨T, cJ, ⟨[2], [], [], [], [], []⟩, 9⟩
def ry : N := M qB hT 36 [.sh (true, [.sl, .sl, .sl, .sl, .sl]), .sh (false, [.int .i64])] [(false, [.int .i64])] fi Tryz.func36 rfl Tryz.ntmps36 Tryz.call36 (fun _ => by kernel_rfl) fun _ _ _ => by kernel_rfl
def jr : List N := ry :: cJ
def um : C := ⟨T, jr, ⟨[1, 2], [1, 8], [3], [(1, [(3, 4)], [])], [], []⟩, 25⟩
def wA : N := M um hT 115 [.sh (true, [.bool, .sl, .sl])] [(true, [.bool, .sl, .sl])] gh Tryz.func115 rfl Tryz.ntmps115 Tryz.call115 (fun _ => by kernel_rfl) fun _ _ _ => by kernel_rfl
def ox : List N := wA :: jr
def uE : C := ⟨T, ox, ⟨[], [0, 2, 4], [3], [(4, [(2, 155), (4, 3)], [])], [], []⟩, 26⟩
def vZ : N := M uE hT 179 [.sh (false, [.sl])] [(false, [.int .u64]), (false, [.bool])] dL Tryz.func179 rfl Tryz.ntmps179 Tryz.call179 (fun _ => by kernel_rfl) fun _ _ _ => by kernel_rfl
def nF : List N := vZ :: ox
def dE : C := ⟨T, nF, ⟨[], [], [], [], [], []⟩, 14⟩
def dH : N := M dE hT 193 [.sh (false, [.int .u32])] [(false, [.int .i64])] aQ Tryz.func193 rfl Tryz.ntmps193 Tryz.call193 (fun _ => by kernel_rfl) fun _ _ _ => by kernel_rfl
def bO : List N := dH :: nF
def vn : C := ⟨T, bO, ⟨[], [4, 5, 6, 7, 35, 38, 39, 50, 51], [], [(3, [(4, 3)], []), (9, [], []), (14, [(35, 3)], []), (18, [], [])], [], []⟩, 68⟩
def wK : N := M vn hT 180 [.sh (false, [.sl])] [(false, [.sl]), (false, [.int .i64])] eB Tryz.func180 rfl Tryz.ntmps180 Tryz.call180 (fun _ => by kernel_rfl) fun _ _ _ => by kernel_rfl
def mD : List N := wK :: bO
def uh : C := ⟨T, mD, ⟨[], [5, 8], [], [], [], []⟩, 21⟩
def tH : N := M uh hT 182 [.sh (false, [.sl]), .sh (false, [.int .i64])] [(false, [.sl])] gE Tryz.func182 rfl Tryz.ntmps182 Tryz.call182 (fun _ => by kernel_rfl) fun _ _ _ => by kernel_rfl
def kx : List N := tH :: mD
def sI : C := ⟨T, kx, ⟨[], [0, 1, 5, 7, 23, 29, 43, 48, 63], [6, 8, 9, 10], [(10, [], []), (18, [(5, 155), (7, 155)], []), (26, [(0, 39), (1, 39)], []), (30, [(0, 39), (1, 39)], [])], [], []⟩, 75⟩
def sj : N := M sI hT 165 [.sh (false, [.sl]), .sh (false, [.sl])] [(false, [.sl])] gN Tryz.func165 rfl Tryz.ntmps165 Tryz.call165 (fun _ => by kernel_rfl) fun _ _ _ => by kernel_rfl
def kt : List N := sj :: kx
def n9 : C := ⟨T, kt, ⟨[], [], [], [], [], []⟩, 12⟩
def ot : N := M n9 hT 136 [.sh (false, [.ptr]), .sh (false, [.sl]), .sh (false, [.sl])] [(false, [.sl])] cD Tryz.func136 rfl Tryz.ntmps136 Tryz.call136 (fun _ => by kernel_rfl) fun _ _ _ => by kernel_rfl
def gi : List N := ot :: kt
def aaC : C := ⟨T, gi, ⟨[], [], [], [], [], []⟩, 14⟩
def aav : N := M aaC hT 192 [.sh (false, [.sl]), .sh (false, [.int .i64])] [(false, [.int .u32])] oh Tryz.func192 rfl Tryz.ntmps192 Tryz.call192 (fun _ => by kernel_rfl) fun _ _ _ => by kernel_rfl
def rO : List N := aav :: gi
def rX : C := ⟨T, rO, ⟨[], [0, 1, 4, 5, 6, 8, 10, 11, 16, 22, 38, 51, 68, 70], [7, 9], [(4, [(24, 4)], []), (11, [(5, 39), (10, 3)], []), (15, [(5, 39)], [])], [], []⟩, 81⟩
def tf : N := M rX hT 178 [.sh (false, [.sl]), .sh (false, [.sl])] [(false, [.sl]), (false, [.sl])] gW Tryz.func178 rfl Tryz.ntmps178 Tryz.call178 (fun _ => by kernel_rfl) fun _ _ _ => by kernel_rfl
def ky : List N := tf :: rO
def nO : C := ⟨T, ky, ⟨[], [8, 9, 14], [], [], [], []⟩, 32⟩
def mb : N := M nO hT 157 [.sh (false, [.ptr]), .sh (false, [.sl]), .sh (false, [.sl])] [(false, [.sl]), (false, [.sl])] bT Tryz.func157 rfl Tryz.ntmps157 Tryz.call157 (fun _ => by kernel_rfl) fun _ _ _ => by kernel_rfl
def gm : List N := mb :: ky
def db : C := ⟨T, gm, ⟨[], [5, 13], [], [(7, [(13, 3)], [])], [], []⟩, 26⟩
def dc : N := M db hT 164 [.sh (false, [.sl]), .sh (false, [.sl])] [(false, [.bool])] bd Tryz.func164 rfl Tryz.ntmps164 Tryz.call164 (fun _ => by kernel_rfl) fun _ _ _ => by kernel_rfl
def bD : List N := dc :: gm
def qD : C := ⟨T, bD, ⟨[], [], [], [], [], []⟩, 6⟩
def qM : N := M qD hT 135 [.sh (false, [.sl])] [(false, [.bool])] iF Tryz.func135 rfl Tryz.ntmps135 Tryz.call135 (fun _ => by kernel_rfl) fun _ _ _ => by kernel_rfl
def iT : List N := qM :: bD
def sE : C := ⟨T, iT, ⟨[6], [1, 2, 6, 7, 8, 14, 21], [], [(5, [(2, 39)], [])], [], []⟩, 39⟩
def tA : N := M sE hT 122 [.sh (false, [.bool]), .sh (false, [.sl]), .sh (false, [.sl])] [(true, [.bool, .sl, .sl])] du Tryz.func122 rfl Tryz.ntmps122 Tryz.call122 (fun _ => by kernel_rfl) fun _ _ _ => by kernel_rfl
def kK : List N := tA :: iT
def kT : C := ⟨T, kK, ⟨[], [], [], [], [], []⟩, 7⟩
def kQ : N := M kT hT 12 [.sh (false, [.ptr])] [(false, [.bool])] aI Tryz.func12 rfl Tryz.ntmps12 Tryz.call12 (fun _ => by kernel_rfl) fun _ _ _ => by kernel_rfl
def fJ : List N := kQ :: kK
def vR : C := ⟨T, fJ, ⟨[3, 4], [3, 4], [], [], [], []⟩, 18⟩
def ve : N := M vR hT 121 [.sh (false, [.ptr]), .sh (true, [.bool, .sl, .sl])] [(true, [.bool, .sl, .sl])] eN Tryz.func121 rfl Tryz.ntmps121 Tryz.call121 (fun _ => by kernel_rfl) fun _ _ _ => by kernel_rfl
def lN : List N := ve :: fJ
def vm : C := ⟨T, lN, ⟨[4, 5, 6, 7], [4, 5, 7, 10], [], [], [], []⟩, 27⟩
def wu : N := M vm hT 124 [.sh (false, [.ptr]), .sh (true, [.bool, .sl, .sl]), .sh (true, [.bool, .sl, .sl])] [(true, [.bool, .sl, .sl])] cV Tryz.func124 rfl Tryz.ntmps124 Tryz.call124 (fun _ => by kernel_rfl) fun _ _ _ => by kernel_rfl
def mp : List N := wu :: lN
def vG : C := ⟨T, mp, ⟨[4, 5, 6], [], [], [], [], []⟩, 12⟩
def uV : N := M vG hT 117 [.sh (false, [.ptr]), .sh (true, [.bool, .sl, .sl]), .sh (true, [.bool, .sl, .sl])] [(true, [.bool, .sl, .sl])] gg Tryz.func117 rfl Tryz.ntmps117 Tryz.call117 (fun _ => by kernel_rfl) fun _ _ _ => by kernel_rfl
def mM : List N := uV :: mp
def ft : C := ⟨T, mM, ⟨[6, 7, 8, 9], [6, 7, 8, 9], [], [(1, [], [(9, 45)])], [], []⟩, 29⟩
def eU : N := M ft hT 116 [.sh (false, [.ptr]), .fn 117 [] 0, .sh (true, [.bool, .sl, .sl, .bool, .sl, .sl]), .sh (true, [.bool, .sl, .sl, .bool, .sl, .sl])] [(true, [.bool, .sl, .sl, .bool, .sl, .sl])] c6 Tryz.func116 rfl Tryz.ntmps116 Tryz.call116 (fun _ => by kernel_rfl) fun _ _ _ => by kernel_rfl
def cj : List N := eU :: mM
def uO : C := ⟨T, cj, ⟨[4, 5, 6], [], [], [], [], []⟩, 11⟩
def wD : N := M uO hT 62 [.sh (false, [.ptr]), .sh (true, [.bool, .sl, .sl, .bool, .sl, .sl]), .sh (true, [.bool, .sl, .sl, .bool, .sl, .sl])] [(true, [.bool, .sl, .sl, .bool, .sl, .sl])] jn Tryz.func62 rfl Tryz.ntmps62 Tryz.call62 (fun _ => by kernel_rfl) fun _ _ _ => by kernel_rfl
def mw : List N := wD :: cj
def kl : C := ⟨T, mw, ⟨[2], [], [], [], [], []⟩, 9⟩
def jL : N := M kl hT 144 [.sh (true, [.int .i64, .bool, .sl, .sl]), .sh (false, [.int .i64])] [(false, [.int .i64])] dF Tryz.func144 rfl Tryz.ntmps144 Tryz.call144 (fun _ => by kernel_rfl) fun _ _ _ => by kernel_rfl
def eA : List N := jL :: mw
def aO : C := ⟨T, eA, ⟨[], [8, 9, 10, 11, 39], [], [(4, [(9, 3), (10, 3)], []), (11, [(6, 3), (7, 4)], [])], [], [(24, 144, 0), (40, 144, 0)]⟩, 49⟩
def aN : N := M aO hT 143 [.sh (false, [.sl]), .sh (false, [.int .i64]), .fn 144 [] 0] [(false, [.int .i64]), (false, [.bool])] aj Tryz.func143 rfl Tryz.ntmps143 Tryz.call143 (fun _ => by kernel_rfl) fun _ _ _ => by kernel_rfl
def aB : List N := aN :: eA
def oG : C := ⟨T, aB, ⟨[2, 4], [2, 4, 7], [5, 6], [], [], []⟩, 23⟩
def oA : N := M oG hT 96 [.sh (true, [.bool, .sl, .sl, .sl]), .sh (false, [.int .i64])] [(true, [.bool, .sl, .sl])] cU Tryz.func96 rfl Tryz.ntmps96 Tryz.call96 (fun _ => by kernel_rfl) fun _ _ _ => by kernel_rfl
def hZ : List N := oA :: aB
def rP : C := ⟨T, hZ, ⟨[1], [1], [], [], [], []⟩, 13⟩
def rY : N := M rP hT 87 [.sh (true, [.bool, .sl, .sl])] [(false, [.int .i64])] bF Tryz.func87 rfl Tryz.ntmps87 Tryz.call87 (fun _ => by kernel_rfl) fun _ _ _ => by kernel_rfl
def kC : List N := rY :: hZ
def uR : C := ⟨T, kC, ⟨[4, 5, 6], [4, 5, 7], [], [], [], []⟩, 34⟩
def vk : N := M uR hT 118 [.sh (false, [.ptr]), .sh (true, [.bool, .sl, .sl]), .sh (true, [.bool, .sl, .sl])] [(true, [.bool, .sl, .sl])] eK Tryz.func118 rfl Tryz.ntmps118 Tryz.call118 (fun _ => by kernel_rfl) fun _ _ _ => by kernel_rfl
def my : List N := vk :: kC
def eW : C := ⟨T, my, ⟨[6, 7, 8, 9], [6, 7, 8, 9], [], [(1, [], [(9, 45)])], [], []⟩, 29⟩
def fq : N := M eW hT 116 [.sh (false, [.ptr]), .fn 118 [] 0, .sh (true, [.bool, .sl, .sl, .bool, .sl, .sl]), .sh (true, [.bool, .sl, .sl, .bool, .sl, .sl])] [(true, [.bool, .sl, .sl, .bool, .sl, .sl])] cZ Tryz.func116 rfl Tryz.ntmps116 Tryz.call116 (fun _ => by kernel_rfl) fun _ _ _ => by kernel_rfl
def cB : List N := fq :: my
def qT : C := ⟨T, cB, ⟨[4, 5, 6], [4], [], [], [], []⟩, 13⟩
def qm : N := M qT hT 63 [.sh (false, [.ptr]), .sh (true, [.bool, .sl, .sl]), .sh (true, [.bool, .sl, .sl, .bool, .sl, .sl])] [(true, [.bool, .sl, .sl, .bool, .sl, .sl])] fD Tryz.func63 rfl Tryz.ntmps63 Tryz.call63 (fun _ => by kernel_rfl) fun _ _ _ => by kernel_rfl
def iP : List N := qm :: cB
def fo : C := ⟨T, iP, ⟨[6, 7, 8, 9], [6, 7, 8, 9], [], [(1, [], [(9, 45)])], [], []⟩, 29⟩
def fz : N := M fo hT 116 [.sh (false, [.ptr]), .fn 124 [] 0, .sh (true, [.bool, .sl, .sl, .bool, .sl, .sl]), .sh (true, [.bool, .sl, .sl, .bool, .sl, .sl])] [(true, [.bool, .sl, .sl, .bool, .sl, .sl])] cX Tryz.func116 rfl Tryz.ntmps116 Tryz.call116 (fun _ => by kernel_rfl) fun _ _ _ => by kernel_rfl
def cC : List N := fz :: iP
def uk : C := ⟨T, cC, ⟨[4, 5, 6], [], [], [], [], []⟩, 11⟩
def uB : N := M uk hT 65 [.sh (false, [.ptr]), .sh (true, [.bool, .sl, .sl, .bool, .sl, .sl]), .sh (true, [.bool, .sl, .sl, .bool, .sl, .sl])] [(true, [.bool, .sl, .sl, .bool, .sl, .sl])] i8 Tryz.func65 rfl Tryz.ntmps65 Tryz.call65 (fun _ => by kernel_rfl) fun _ _ _ => by kernel_rfl
def lR : List N := uB :: cC
def oJ : C := ⟨T, lR, ⟨[], [], [], [], [], []⟩, 5⟩
def oK : N := M oJ hT 97 [.sh (false, [.ptr])] [(false, [.int .i64])] fY Tryz.func97 rfl Tryz.ntmps97 Tryz.call97 (fun _ => by kernel_rfl) fun _ _ _ => by kernel_rfl
def g8 : List N := oK :: lR
def kR : C := ⟨T, g8, ⟨[7, 9, 11, 12], [7, 9, 11, 12, 13, 16, 25, 53, 55], [10], [(2, [(32, 4)], []), (5, [], [(9, 45)]), (9, [(55, 3)], []), (13, [], [])], [], []⟩, 95⟩
def kP : N := M kR hT 37 [.sh (false, [.ptr]), .sh (false, [.ptr]), .sh (false, [.int .i64]), .sh (true, [.bool, .sl, .sl, .bool, .sl, .sl])] [(false, [.int .i64])] cQ Tryz.func37 rfl Tryz.ntmps37 Tryz.call37 (fun _ => by kernel_rfl) fun _ _ _ => by kernel_rfl
def fG : List N := kP :: g8
def lG : C := ⟨T, fG, ⟨[9, 12, 13], [9, 12, 13, 17, 45, 90], [], [(2, [(14, 4)], []), (10, [(37, 4)], []), (18, [(101, 4)], [])], [], []⟩, 108⟩
def mc : N := M lG hT 10 [.sh (false, [.ptr]), .sh (false, [.ptr]), .sh (false, [.int .i64]), .sh (false, [.bool]), .sh (true, [.int .i64, .bool, .sl, .sl, .bool, .sl, .sl])] [(false, [.sl]), (false, [.int .i64])] bR Tryz.func10 rfl Tryz.ntmps10 Tryz.call10 (fun _ => by kernel_rfl) fun _ _ _ => by kernel_rfl
def gc : List N := mc :: fG
def mH : C := ⟨T, gc, ⟨[], [2, 5, 7, 11, 13, 19, 34, 37], [3, 4], [(4, [(2, 3), (3, 4), (13, 3)], []), (11, [(2, 3), (3, 4), (19, 3)], []), (15, [(2, 3), (3, 4)], []), (17, [(48, 4)], [])], [], []⟩, 55⟩
def ni : N := M mH hT 56 [.sh (false, [.ptr])] [(false, [.int .i64]), (false, [.bool])] fE Tryz.func56 rfl Tryz.ntmps56 Tryz.call56 (fun _ => by kernel_rfl) fun _ _ _ => by kernel_rfl
def gp : List N := ni :: gc
def qR : C := ⟨T, gp, ⟨[2], [], [], [], [], []⟩, 11⟩
def rx : N := M qR hT 59 [.sh (true, [.int .i64, .bool, .sl, .sl]), .sh (false, [.bool])] [(false, [.bool])] ff Tryz.func59 rfl Tryz.ntmps59 Tryz.call59 (fun _ => by kernel_rfl) fun _ _ _ => by kernel_rfl
def iX : List N := rx :: gp
def io : C := ⟨T, iX, ⟨[3, 5, 7], [3, 7, 16], [], [(2, [(6, 4)], [])], [], []⟩, 26⟩
def iC : N := M io hT 60 [.sh (true, [.sl, .int .i64]), .sh (false, [.int .i64]), .sh (true, [.bool, .sl, .sl, .bool, .sl, .sl])] [(false, [.bool])] cL Tryz.func60 rfl Tryz.ntmps60 Tryz.call60 (fun _ => by kernel_rfl) fun _ _ _ => by kernel_rfl
def dR : List N := iC :: iX
def jH : C := ⟨T, dR, ⟨[3], [3], [], [], [], []⟩, 21⟩
def jF : N := M jH hT 58 [.sh (true, [.int .i64, .bool, .sl, .sl]), .sh (false, [.adr]), .sh (false, [.adr])] [(false, [.bool])] gb Tryz.func58 rfl Tryz.ntmps58 Tryz.call58 (fun _ => by kernel_rfl) fun _ _ _ => by kernel_rfl
def eH : List N := jF :: dR
def aV : C := ⟨T, eH, ⟨[], [5, 8], [], [(3, [(8, 3)], [])], [], []⟩, 19⟩
def aY : N := M aV hT 57 [.sh (false, [.sl]), .fn 58 [] 2] [(false, [.int .i64])] aw Tryz.func57 rfl Tryz.ntmps57 Tryz.call57 (fun _ => by kernel_rfl) fun _ _ _ => by kernel_rfl
def aH : List N := aY :: eH
def jR : C := ⟨T, aH, ⟨[10, 11], [8, 10, 11, 37, 39], [7], [(5, [(8, 48), (39, 3)], []), (12, [], [(11, 43)])], [], []⟩, 68⟩
def kh : N := M jR hT 61 [.sh (false, [.ptr]), .sh (false, [.int .i64]), .sh (false, [.bool])] [(false, [.sl])] dQ Tryz.func61 rfl Tryz.ntmps61 Tryz.call61 (fun _ => by kernel_rfl) fun _ _ _ => by kernel_rfl
def eE : List N := kh :: aH
def vM : C := ⟨T, eE, ⟨[4, 5, 6], [4, 5, 6, 7], [], [], [], []⟩, 38⟩
def uZ : N := M vM hT 64 [.sh (false, [.ptr]), .sh (true, [.bool, .sl, .sl]), .sh (true, [.bool, .sl, .sl])] [(true, [.bool, .sl, .sl])] i6 Tryz.func64 rfl Tryz.ntmps64 Tryz.call64 (fun _ => by kernel_rfl) fun _ _ _ => by kernel_rfl
def l7 : List N := uZ :: eE
def vQ : C := ⟨T, l7, ⟨[2], [], [], [], [], []⟩, 8⟩
def wL : N := M vQ hT 127 [.sh (false, [.int .i64])] [(true, [.bool, .sl, .sl, .sl])] lT Tryz.func127 rfl Tryz.ntmps127 Tryz.call127 (fun _ => by kernel_rfl) fun _ _ _ => by kernel_rfl
def lK : List N := wL :: l7
def jD : C := ⟨T, lK, ⟨[3, 4], [], [], [], [], []⟩, 9⟩
def jN : N := M jD hT 160 [.sh (true, [.bool, .sl, .sl]), .sh (false, [.adr]), .sh (false, [.adr])] [(true, [.bool, .sl, .sl])] ck Tryz.func160 rfl Tryz.ntmps160 Tryz.call160 (fun _ => by kernel_rfl) fun _ _ _ => by kernel_rfl
def eO : List N := jN :: lK
def rh : C := ⟨T, eO, ⟨[3, 4], [4], [], [], [], []⟩, 9⟩
def qg : N := M rh hT 159 [.sh (false, [.ptr]), .sh (true, [.bool, .sl, .sl, .sl])] [(true, [.bool, .sl, .sl, .sl])] eX Tryz.func159 rfl Tryz.ntmps159 Tryz.call159 (fun _ => by kernel_rfl) fun _ _ _ => by kernel_rfl
def jt : List N := qg :: eO
def oC : C := ⟨T, jt, ⟨[5, 6, 8, 10], [3, 4, 5, 6, 7, 8, 10, 22, 24], [], [(9, [(24, 3)], [(8, 85)])], [], [(16, 160, 2), (32, 160, 2)]⟩, 44⟩
def oO : N := M oC hT 126 [.sh (false, [.ptr]), .sh (true, [.bool, .sl, .sl]), .sh (true, [.bool, .sl, .sl, .sl])] [(true, [.bool, .sl, .sl, .sl])] dY Tryz.func126 rfl Tryz.ntmps126 Tryz.call126 (fun _ => by kernel_rfl) fun _ _ _ => by kernel_rfl
def ia : List N := oO :: jt
def kg : C := ⟨T, ia, ⟨[2, 4, 5, 7], [2, 5, 7, 12, 14], [], [(4, [(14, 3)], [(5, 85)]), (8, [], [(5, 85)])], [], []⟩, 30⟩
def jV : N := M kg hT 128 [.sh (true, [.bool, .sl, .sl, .sl]), .sh (false, [.int .i64])] [(true, [.bool, .sl, .sl, .sl])] cF Tryz.func128 rfl Tryz.ntmps128 Tryz.call128 (fun _ => by kernel_rfl) fun _ _ _ => by kernel_rfl
def et : List N := jV :: ia
def uf : C := ⟨T, et, ⟨[5, 6, 7, 8, 9, 12], [5, 7, 9, 10, 11, 12, 31, 59, 63, 84], [], [(5, [(10, 83), (11, 83)], [(9, 85)]), (7, [(35, 4)], []), (10, [(10, 83), (11, 83)], [(12, 82)]), (11, [(55, 4)], []), (13, [(80, 4)], [])], [], []⟩, 113⟩
def t6 : N := M uf hT 125 [.sh (false, [.ptr]), .sh (true, [.bool, .sl, .sl, .sl]), .sh (true, [.bool, .sl, .sl]), .sh (true, [.bool, .sl, .sl, .sl])] [(true, [.bool, .sl, .sl, .sl])] gU Tryz.func125 rfl Tryz.ntmps125 Tryz.call125 (fun _ => by kernel_rfl) fun _ _ _ => by kernel_rfl
def kz : List N := t6 :: et
def fL : C := ⟨T, kz, ⟨[], [], [], [], [], []⟩, 8⟩
def fM : N := M fL hT 114 [.sh (false, [.sl])] [(false, [.sl])] bX Tryz.func114 rfl Tryz.ntmps114 Tryz.call114 (fun _ => by kernel_rfl) fun _ _ _ => by kernel_rfl
def cI : List N := fM :: kz
def nq : C := ⟨T, cI, ⟨[9, 11, 12, 15, 16], [9, 11, 12, 13, 15, 16, 19, 77, 79], [10, 14], [(2, [(27, 4)], []), (11, [], [(11, 43)]), (12, [], [(12, 85)]), (16, [(79, 3)], []), (20, [], [])], [], []⟩, 126⟩
def lE : N := M nq hT 66 [.sh (false, [.ptr]), .sh (false, [.ptr]), .sh (false, [.int .i64]), .sh (false, [.int .i64])] [(false, [.int .i64])] fg Tryz.func66 rfl Tryz.ntmps66 Tryz.call66 (fun _ => by kernel_rfl) fun _ _ _ => by kernel_rfl
def gj : List N := lE :: cI
def oP : C := ⟨T, gj, ⟨[11, 13, 14], [3, 7, 8, 9, 10, 11, 12, 13, 14, 15], [], [(13, [], [(13, 45)]), (14, [], [(14, 45)])], [], []⟩, 99⟩
def oM : N := M oP hT 25 [.sh (false, [.ptr]), .sh (false, [.ptr])] [(false, [.int .i64]), (false, [.sl]), (false, [.int .i64])] gB Tryz.func25 rfl Tryz.ntmps25 Tryz.call25 (fun _ => by kernel_rfl) fun _ _ _ => by kernel_rfl
def ig : List N := oM :: gj
def mQ : C := ⟨T, ig, ⟨[], [9], [6, 7, 8], [(1, [], [])], [], []⟩, 20⟩
def mW : N := M mQ hT 11 [.sh (false, [.ptr]), .sh (false, [.ptr])] [(false, [.sl]), (false, [.int .i64])] dl Tryz.func11 rfl Tryz.ntmps11 Tryz.call11 (fun _ => by kernel_rfl) fun _ _ _ => by kernel_rfl
def ga : List N := mW :: ig
def oD : C := ⟨T, ga, ⟨[1], [1, 2, 3, 4, 29, 36, 41], [5], [(8, [(0, 4)], [])], [], []⟩, 48⟩
def oF : N := M oD hT 6 [] [(false, [.bool])] cR Tryz.func6 rfl Tryz.ntmps6 Tryz.call6 (fun _ => by kernel_rfl) fun _ _ _ => by kernel_rfl
def hO : List N := oF :: ga
def ql : C := ⟨T, hO, ⟨[4], [4, 5, 7, 16], [], [(3, [(7, 3)], []), (9, [(21, 4)], [])], [], []⟩, 23⟩
def rC : N := M ql hT 18 [.sh (false, [.sl])] [(false, [.bool])] b9 Tryz.func18 rfl Tryz.ntmps18 Tryz.call18 (fun _ => by kernel_rfl) fun _ _ _ => by kernel_rfl
def iZ : List N := rC :: hO
def vd : C := ⟨T, iZ, ⟨[], [3, 8], [], [(3, [(3, 3)], []), (5, [(15, 4)], [])], [], []⟩, 21⟩
def vq : N := M vd hT 151 [.sh (false, [.sl])] [(false, [.sl])] bY Tryz.func151 rfl Tryz.ntmps151 Tryz.call151 (fun _ => by kernel_rfl) fun _ _ _ => by kernel_rfl
def mj : List N := vq :: iZ
def yn : C := ⟨T, mj, ⟨[], [3, 4, 5, 6, 7], [], [(4, [(3, 105), (4, 3)], []), (12, [(5, 3), (6, 3)], []), (19, [(3, 105), (5, 3)], [])], [], []⟩, 52⟩
def yM : N := M yn hT 106 [.sh (false, [.sl])] [(false, [.sl])] iW Tryz.func106 rfl Tryz.ntmps106 Tryz.call106 (fun _ => by kernel_rfl) fun _ _ _ => by kernel_rfl
def oZ : List N := yM :: mj
def xU : C := ⟨T, oZ, ⟨[1, 2, 3], [1, 3], [], [(1, [], [(3, 107)]), (2, [], [(3, 107)])], [], []⟩, 22⟩
def yD : N := M xU hT 50 [.sh (true, [.bool, .sl, .sl])] [(true, [.bool, .sl, .sl])] eZ Tryz.func50 rfl Tryz.ntmps50 Tryz.call50 (fun _ => by kernel_rfl) fun _ _ _ => by kernel_rfl
def o9 : List N := yD :: oZ
def wx : C := ⟨T, o9, ⟨[2, 3], [0, 3], [], [(2, [(0, 3)], []), (6, [(0, 3)], [(3, 107)])], [], []⟩, 25⟩
def vw : N := M wx hT 73 [.sh (false, [.int .i64])] [(true, [.bool, .sl, .sl])] lA Tryz.func73 rfl Tryz.ntmps73 Tryz.call73 (fun _ => by kernel_rfl) fun _ _ _ => by kernel_rfl
def oy : List N := vw :: o9
def ww : C := ⟨T, oy, ⟨[], [5], [], [(11, [(5, 3)], [])], [], []⟩, 41⟩
def vE : N := M ww hT 162 [.sh (false, [.sl]), .sh (false, [.sl])] [(false, [.int .i64])] d8 Tryz.func162 rfl Tryz.ntmps162 Tryz.call162 (fun _ => by kernel_rfl) fun _ _ _ => by kernel_rfl
def m8 : List N := vE :: oy
def wa : C := ⟨T, m8, ⟨[], [5, 7, 8], [6], [(9, [(5, 105), (6, 3), (7, 3)], []), (15, [(8, 3)], []), (19, [(6, 3), (8, 3)], [])], [], []⟩, 47⟩
def uP : N := M wa hT 163 [.sh (false, [.sl]), .sh (false, [.sl])] [(false, [.sl])] eG Tryz.func163 rfl Tryz.ntmps163 Tryz.call163 (fun _ => by kernel_rfl) fun _ _ _ => by kernel_rfl
def lw : List N := uP :: m8
def vF : C := ⟨T, lw, ⟨[], [6, 7, 8, 15, 40, 41], [], [(9, [(7, 105), (8, 3)], []), (15, [(7, 105)], [])], [], []⟩, 49⟩
def uH : N := M vF hT 150 [.sh (false, [.sl]), .sh (false, [.sl])] [(false, [.sl]), (false, [.sl])] eC Tryz.func150 rfl Tryz.ntmps150 Tryz.call150 (fun _ => by kernel_rfl) fun _ _ _ => by kernel_rfl
def mu : List N := uH :: lw
def uY : C := ⟨T, mu, ⟨[], [0, 1, 10], [5, 6], [(2, [(0, 105), (1, 105)], [])], [], []⟩, 19⟩
def vK : N := M uY hT 149 [.sh (false, [.sl]), .sh (false, [.sl])] [(false, [.sl])] iJ Tryz.func149 rfl Tryz.ntmps149 Tryz.call149 (fun _ => by kernel_rfl) fun _ _ _ => by kernel_rfl
def oe : List N := vK :: mu
def uA : C := ⟨T, oe, ⟨[1, 2], [1, 2, 3, 18, 25], [4, 5, 6, 7], [], [], []⟩, 37⟩
def vr : N := M uA hT 104 [.sh (true, [.bool, .sl, .sl])] [(true, [.bool, .sl, .sl])] c9 Tryz.func104 rfl Tryz.ntmps104 Tryz.call104 (fun _ => by kernel_rfl) fun _ _ _ => by kernel_rfl
def mS : List N := vr :: oe
def pY : C := ⟨T, mS, ⟨[], [3, 4, 5, 6, 7], [], [(4, [(3, 39), (4, 3)], []), (8, [(3, 39)], []), (12, [(5, 155), (6, 3)], [])], [], []⟩, 51⟩
def rJ : N := M pY hT 105 [.sh (false, [.sl])] [(false, [.sl])] cM Tryz.func105 rfl Tryz.ntmps105 Tryz.call105 (fun _ => by kernel_rfl) fun _ _ _ => by kernel_rfl
def iO : List N := rJ :: mS
def td : C := ⟨T, iO, ⟨[1, 2, 3], [1, 3, 17], [], [(2, [], [(3, 43)]), (3, [], [(3, 43)]), (4, [(23, 4)], [])], [], []⟩, 29⟩
def tU : N := M td hT 49 [.sh (true, [.bool, .sl, .sl])] [(true, [.bool, .sl, .sl])] jU Tryz.func49 rfl Tryz.ntmps49 Tryz.call49 (fun _ => by kernel_rfl) fun _ _ _ => by kernel_rfl
def kN : List N := tU :: iO
def tZ : C := ⟨T, kN, ⟨[], [5], [], [(7, [(5, 3)], [])], [], []⟩, 26⟩
def rT : N := M tZ hT 103 [.sh (false, [.sl]), .sh (false, [.sl])] [(false, [.bool])] dr Tryz.func103 rfl Tryz.ntmps103 Tryz.call103 (fun _ => by kernel_rfl) fun _ _ _ => by kernel_rfl
def kr : List N := rT :: kN
def tI : C := ⟨T, kr, ⟨[2, 3], [2, 3, 12, 21], [], [(1, [(4, 4)], [])], [], []⟩, 28⟩
def tM : N := M tI hT 48 [.sh (true, [.bool, .sl, .sl]), .sh (true, [.bool, .sl, .sl])] [(false, [.bool])] cf Tryz.func48 rfl Tryz.ntmps48 Tryz.call48 (fun _ => by kernel_rfl) fun _ _ _ => by kernel_rfl
def kB : List N := tM :: kr
def qV : C := ⟨T, kB, ⟨[1], [1, 8, 21, 26, 38, 44], [], [(2, [(49, 4)], [])], [], []⟩, 55⟩
def pW : N := M qV hT 19 [.sh (true, [.bool, .sl, .sl])] [(false, [.bool])] bp Tryz.func19 rfl Tryz.ntmps19 Tryz.call19 (fun _ => by kernel_rfl) fun _ _ _ => by kernel_rfl
def iI : List N := pW :: kB
def qw : C := ⟨T, iI, ⟨[1, 4], [1, 3, 4, 24, 27, 40, 46], [], [(7, [(3, 3)], []), (13, [(53, 4)], [])], [], []⟩, 54⟩
def rB : N := M qw hT 41 [.sh (true, [.bool, .sl, .sl, .sl])] [(false, [.bool])] fe Tryz.func41 rfl Tryz.ntmps41 Tryz.call41 (fun _ => by kernel_rfl) fun _ _ _ => by kernel_rfl
def jb : List N := rB :: iI
def wz : C := ⟨T, jb, ⟨[4, 6], [4, 6, 7, 9, 17, 23, 29, 31], [], [(3, [(9, 3)], []), (10, [(27, 4)], []), (14, [(31, 3)], [])], [], []⟩, 41⟩
def uD : N := M wz hT 92 [.sh (false, [.sl])] [(false, [.bool])] mP Tryz.func92 rfl Tryz.ntmps92 Tryz.call92 (fun _ => by kernel_rfl) fun _ _ _ => by kernel_rfl
def nR : List N := uD :: jb
def pX : C := ⟨T, nR, ⟨[], [8, 12], [], [(1, [(4, 4)], [])], [], []⟩, 16⟩
def qu : N := M pX hT 30 [.sh (false, [.sl]), .sh (false, [.int .i64])] [(false, [.bool])] im Tryz.func30 rfl Tryz.ntmps30 Tryz.call30 (fun _ => by kernel_rfl) fun _ _ _ => by kernel_rfl
def iG : List N := qu :: nR
def rd : C := ⟨T, iG, ⟨[1], [1, 6], [], [(1, [(2, 4)], [])], [], []⟩, 11⟩
def qZ : N := M rd hT 93 [.sh (true, [.bool, .sl, .sl, .bool, .sl, .sl])] [(false, [.bool])] il Tryz.func93 rfl Tryz.ntmps93 Tryz.call93 (fun _ => by kernel_rfl) fun _ _ _ => by kernel_rfl
def iM : List N := qZ :: iG
def vC : C := ⟨T, iM, ⟨[4], [4, 5, 7, 17], [], [(3, [(7, 3)], []), (9, [(21, 4)], [])], [], []⟩, 23⟩
def wl : N := M vC hT 31 [.sh (false, [.sl])] [(false, [.bool])] ji Tryz.func31 rfl Tryz.ntmps31 Tryz.call31 (fun _ => by kernel_rfl) fun _ _ _ => by kernel_rfl
def lM : List N := wl :: iM
def wE : C := ⟨T, lM, ⟨[8, 10, 12], [8, 10, 12, 15, 20, 25, 27, 35, 43, 57, 59, 69, 78, 80, 88, 97, 105, 114], [], [(2, [(24, 4)], []), (7, [(27, 3)], []), (14, [(55, 4)], []), (18, [(59, 3)], []), (24, [(75, 4)], []), (29, [(80, 3)], []), (35, [(121, 4)], [])], [], []⟩, 123⟩
def vA : N := M wE hT 7 [.sh (false, [.int .i64]), .sh (false, [.sl]), .sh (false, [.sl])] [(false, [.bool])] mI Tryz.func7 rfl Tryz.ntmps7 Tryz.call7 (fun _ => by kernel_rfl) fun _ _ _ => by kernel_rfl
def l9 : List N := vA :: lM
def oL : C := ⟨T, l9, ⟨[1], [], [], [], [], []⟩, 5⟩
def oz : N := M oL hT 38 [.sh (true, [.bool, .sl, .sl, .bool, .sl, .sl])] [(false, [.bool])] cW Tryz.func38 rfl Tryz.ntmps38 Tryz.call38 (fun _ => by kernel_rfl) fun _ _ _ => by kernel_rfl
def ic : List N := oz :: l9
def tP : C := ⟨T, ic, ⟨[2, 3], [2, 3, 10], [], [(1, [(4, 4)], [])], [], []⟩, 17⟩
def tt : N := M tP hT 39 [.sh (true, [.bool, .sl, .sl, .bool, .sl, .sl]), .sh (true, [.bool, .sl, .sl, .bool, .sl, .sl])] [(false, [.bool])] bE Tryz.func39 rfl Tryz.ntmps39 Tryz.call39 (fun _ => by kernel_rfl) fun _ _ _ => by kernel_rfl
def kD : List N := tt :: ic
def ul : C := ⟨T, kD, ⟨[2], [2, 5], [], [(3, [(5, 3)], [])], [], []⟩, 21⟩
def wj : N := M ul hT 40 [.sh (true, [.sl, .sl, .sl, .sl, .sl]), .sh (false, [.int .i64])] [(false, [.int .i64])] iR Tryz.func40 rfl Tryz.ntmps40 Tryz.call40 (fun _ => by kernel_rfl) fun _ _ _ => by kernel_rfl
def na : List N := wj :: kD
def yp : C := ⟨T, na, ⟨[1, 2], [1], [], [], [], []⟩, 10⟩
def yr : N := M yp hT 44 [.sh (true, [.bool, .sl, .sl, .bool, .sl, .sl])] [(true, [.bool, .sl, .sl, .bool, .sl, .sl])] eR Tryz.func44 rfl Tryz.ntmps44 Tryz.call44 (fun _ => by kernel_rfl) fun _ _ _ => by kernel_rfl
def pC : List N := yr :: na
def wN : C := ⟨T, pC, ⟨[], [5, 6, 7, 8, 9, 15, 27], [], [(4, [(6, 3)], []), (11, [(7, 3), (8, 3)], []), (13, [(30, 4)], []), (17, [(9, 3)], [])], [], []⟩, 67⟩
def uv : N := M wN hT 131 [.sh (false, [.sl]), .sh (false, [.sl])] [(false, [.sl])] cS Tryz.func131 rfl Tryz.ntmps131 Tryz.call131 (fun _ => by kernel_rfl) fun _ _ _ => by kernel_rfl
def n6 : List N := uv :: pC
def wb : C := ⟨T, n6, ⟨[2, 3, 4], [2, 3], [], [], [], []⟩, 22⟩
def uu : N := M wb hT 130 [.sh (true, [.bool, .sl, .sl]), .sh (true, [.bool, .sl, .sl])] [(true, [.bool, .sl, .sl])] jl Tryz.func130 rfl Tryz.ntmps130 Tryz.call130 (fun _ => by kernel_rfl) fun _ _ _ => by kernel_rfl
def nB : List N := uu :: n6
def qC : C := ⟨T, nB, ⟨[2, 3, 4], [2, 3], [], [], [], []⟩, 14⟩
def qt : N := M qC hT 71 [.sh (true, [.bool, .sl, .sl]), .sh (true, [.bool, .sl, .sl, .bool, .sl, .sl])] [(true, [.bool, .sl, .sl, .bool, .sl, .sl])] ip Tryz.func71 rfl Tryz.ntmps71 Tryz.call71 (fun _ => by kernel_rfl) fun _ _ _ => by kernel_rfl
def ja : List N := qt :: nB
def wc : C := ⟨T, ja, ⟨[], [5, 6, 7, 8, 14, 20], [], [(5, [(5, 105), (6, 3), (7, 3)], []), (7, [(23, 4)], []), (11, [(8, 3)], []), (14, [(8, 3)], [])], [], []⟩, 56⟩
def we : N := M wc hT 161 [.sh (false, [.sl]), .sh (false, [.sl])] [(false, [.sl])] iV Tryz.func161 rfl Tryz.ntmps161 Tryz.call161 (fun _ => by kernel_rfl) fun _ _ _ => by kernel_rfl
def nh : List N := we :: ja
def uq : C := ⟨T, nh, ⟨[2, 3, 4], [2, 3, 4, 5, 6, 7], [], [], [], []⟩, 56⟩
def u4 : N := M uq hT 129 [.sh (true, [.bool, .sl, .sl]), .sh (true, [.bool, .sl, .sl])] [(true, [.bool, .sl, .sl])] ge Tryz.func129 rfl Tryz.ntmps129 Tryz.call129 (fun _ => by kernel_rfl) fun _ _ _ => by kernel_rfl
def lB : List N := u4 :: nh
def uK : C := ⟨T, lB, ⟨[2, 3, 4], [2, 3], [], [], [], []⟩, 16⟩
def va : N := M uK hT 69 [.sh (true, [.bool, .sl, .sl, .bool, .sl, .sl]), .sh (true, [.bool, .sl, .sl, .bool, .sl, .sl])] [(true, [.bool, .sl, .sl, .bool, .sl, .sl])] lP Tryz.func69 rfl Tryz.ntmps69 Tryz.call69 (fun _ => by kernel_rfl) fun _ _ _ => by kernel_rfl
def nT : List N := va :: lB
def rH : C := ⟨T, nT, ⟨[2, 4, 5], [2, 5, 6], [], [(4, [(6, 3)], [(5, 109)])], [], []⟩, 37⟩
def qy : N := M rH hT 43 [.sh (true, [.bool, .sl, .sl, .sl]), .sh (false, [.sl])] [(true, [.bool, .sl, .sl, .bool, .sl, .sl])] iE Tryz.func43 rfl Tryz.ntmps43 Tryz.call43 (fun _ => by kernel_rfl) fun _ _ _ => by kernel_rfl
def jB : List N := qy :: nT
def uC : C := ⟨T, jB, ⟨[1, 2], [1, 6], [], [(1, [], [(2, 107)])], [], []⟩, 17⟩
def wt : N := M uC hT 76 [.sh (true, [.bool, .sl, .sl])] [(true, [.bool, .sl, .sl])] oa Tryz.func76 rfl Tryz.ntmps76 Tryz.call76 (fun _ => by kernel_rfl) fun _ _ _ => by kernel_rfl
def mo : List N := wt :: jB
def vT : C := ⟨T, mo, ⟨[2, 3, 5], [5], [], [(1, [], [(5, 107)])], [], []⟩, 16⟩
def u5 : N := M vT hT 98 [.sh (true, [.bool, .sl, .sl]), .sh (true, [.bool, .sl, .sl])] [(false, [.int .i64])] i5 Tryz.func98 rfl Tryz.ntmps98 Tryz.call98 (fun _ => by kernel_rfl) fun _ _ _ => by kernel_rfl
def nZ : List N := u5 :: mo
def vX : C := ⟨T, nZ, ⟨[2, 3], [2, 3, 5], [], [(2, [(5, 3)], [])], [], []⟩, 19⟩
def vo : N := M vX hT 42 [.sh (true, [.bool, .sl, .sl, .bool, .sl, .sl]), .sh (true, [.bool, .sl, .sl, .bool, .sl, .sl])] [(false, [.int .i64])] jd Tryz.func42 rfl Tryz.ntmps42 Tryz.call42 (fun _ => by kernel_rfl) fun _ _ _ => by kernel_rfl
def nw : List N := vo :: nZ
def p9 : C := ⟨T, nw, ⟨[1], [1, 3, 4, 5, 6, 7, 8, 19, 26, 45, 55, 72, 83, 91, 117, 122, 129, 138, 174], [], [(3, [(32, 4)], []), (8, [(4, 3)], []), (14, [(64, 4)], []), (17, [(102, 4)], []), (22, [(5, 3)], []), (29, [(149, 4)], []), (34, [(7, 3)], []), (40, [(179, 4)], [])], [], []⟩, 196⟩
def qX : N := M p9 hT 13 [.sh (true, [.sl, .sl, .sl, .sl, .sl])] [(false, [.bool])] ij Tryz.func13 rfl Tryz.ntmps13 Tryz.call13 (fun _ => by kernel_rfl) fun _ _ _ => by kernel_rfl
def jq : List N := qX :: nw
def ti : C := ⟨T, jq, ⟨[2, 3], [2, 3, 5, 12, 41], [], [(2, [(20, 4)], []), (7, [(5, 3)], []), (12, [(56, 4)], [])], [], []⟩, 57⟩
def tC : N := M ti hT 45 [.sh (true, [.bool, .sl, .sl, .sl]), .sh (true, [.bool, .sl, .sl, .sl])] [(false, [.bool])] jS Tryz.func45 rfl Tryz.ntmps45 Tryz.call45 (fun _ => by kernel_rfl) fun _ _ _ => by kernel_rfl
def kL : List N := tC :: jq
def sU : C := ⟨T, kL, ⟨[2, 3], [2, 3, 5, 6, 7, 8, 9, 17, 26, 35, 44, 129, 165], [], [(2, [(52, 4)], []), (7, [(5, 3)], []), (17, [(6, 3)], []), (27, [(7, 3)], []), (37, [(8, 3)], []), (42, [(144, 4)], []), (47, [(9, 3)], []), (52, [(180, 4)], [])], [], []⟩, 181⟩
def tw : N := M sU hT 14 [.sh (true, [.sl, .sl, .sl, .sl, .sl]), .sh (true, [.sl, .sl, .sl, .sl, .sl])] [(false, [.bool])] jY Tryz.func14 rfl Tryz.ntmps14 Tryz.call14 (fun _ => by kernel_rfl) fun _ _ _ => by kernel_rfl
def kH : List N := tw :: kL
def wg : C := ⟨T, kH, ⟨[2, 3], [], [], [], [], []⟩, 10⟩
def vh : N := M wg hT 46 [.sh (true, [.bool, .sl, .sl, .bool, .sl, .sl]), .sh (true, [.bool, .sl, .sl, .bool, .sl, .sl])] [(false, [.int .i64])] je Tryz.func46 rfl Tryz.ntmps46 Tryz.call46 (fun _ => by kernel_rfl) fun _ _ _ => by kernel_rfl
def nA : List N := vh :: kH
def rG : C := ⟨T, nA, ⟨[2], [2, 12], [], [(1, [(4, 4)], [])], [], []⟩, 27⟩
def rM : N := M rG hT 15 [.sh (true, [.sl, .sl, .sl, .sl, .sl]), .sh (false, [.int .i64])] [(false, [.bool])] ir Tryz.func15 rfl Tryz.ntmps15 Tryz.call15 (fun _ => by kernel_rfl) fun _ _ _ => by kernel_rfl
def iQ : List N := rM :: nA
def qz : C := ⟨T, iQ, ⟨[2], [2, 12], [], [(1, [(4, 4)], [])], [], []⟩, 27⟩
def qO : N := M qz hT 16 [.sh (true, [.sl, .sl, .sl, .sl, .sl]), .sh (false, [.int .i64])] [(false, [.bool])] iD Tryz.func16 rfl Tryz.ntmps16 Tryz.call16 (fun _ => by kernel_rfl) fun _ _ _ => by kernel_rfl
def qJ : List N := qO :: iQ
def f9 : C := ⟨T, qJ, ⟨[10, 15], [7, 8, 10, 13, 14, 15, 16, 28, 30, 57, 64, 70, 74, 87, 96, 102, 106], [11, 12], [(13, [(30, 3)], []), (17, [], []), (21, [(11, 30), (12, 30)], []), (24, [(67, 4)], []), (26, [(6, 4)], []), (30, [(92, 4)], []), (35, [(96, 3)], []), (41, [(111, 4)], [])], [], []⟩, 116⟩
theorem ew (reals : Int) (rows : Sl) (acts : Sl) (w : World) (m : Heap) (hr : Rel ⟨m, []⟩ w.heap) (S : Bool → Heap → Prop) (H : b7 reals rows acts m S) : Calls Tryz.prog 3 #[Value.int .i64 reals, Sl.toV rows, Sl.toV acts] w (Post ⟨w, m⟩ Value.bool S) := cast (by kernel_rfl) (acy f9 (pI hT hmix) hT hmix 3 [.sh (false, [.int .i64]), .sh (false, [.sl]), .sh (false, [.sl])] [(false, [.bool])] b7 Tryz.func3 rfl Tryz.ntmps3 (fun _ => by kernel_rfl) (fun _ _ _ => by kernel_rfl) (reals, rows, acts, ()) w m S hr H)
end
end Go.Proofs.YtlclchgingkkhaaGreatDoor

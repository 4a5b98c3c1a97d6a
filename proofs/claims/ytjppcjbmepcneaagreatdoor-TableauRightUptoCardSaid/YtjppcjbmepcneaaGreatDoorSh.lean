/-
  Laws that the proof of this claim's statement leans on, each proved under the conditions that it states.
-/
import Derived.Test.YtjppcjbmepcneaaGreatDoorFwC
set_option linter.unusedVariables false
set_option linter.unusedSimpArgs false
namespace Go.Sh
open Go Go.Lift
def C_bool_sl (x : Bool × Sl) : List Value := [Value.bool x.1, Sl.toV x.2]
def C_bool_sl_sl (x : Bool × Sl × Sl) : List Value := [Value.bool x.1, Sl.toV x.2.1, Sl.toV x.2.2]
def C_bool_sl_sl_bool_sl_sl (x : Bool × Sl × Sl × Bool × Sl × Sl) : List Value := [Value.bool x.1, Sl.toV x.2.1, Sl.toV x.2.2.1, Value.bool x.2.2.2.1, Sl.toV x.2.2.2.2.1, Sl.toV x.2.2.2.2.2]
def C_bool_sl_sl_sl (x : Bool × Sl × Sl × Sl) : List Value := [Value.bool x.1, Sl.toV x.2.1, Sl.toV x.2.2.1, Sl.toV x.2.2.2]
def C_i64ubool_sl_sl (x : Int × Bool × Sl × Sl) : List Value := [Value.int .i64 x.1, Value.bool x.2.1, Sl.toV x.2.2.1, Sl.toV x.2.2.2]
def C_i64ubool_sl_sl_bool_sl_sl (x : Int × Bool × Sl × Sl × Bool × Sl × Sl) : List Value := [Value.int .i64 x.1, Value.bool x.2.1, Sl.toV x.2.2.1, Sl.toV x.2.2.2.1, Value.bool x.2.2.2.2.1, Sl.toV x.2.2.2.2.2.1, Sl.toV x.2.2.2.2.2.2]
def C_i64ui64usl_sl_sl_sl_sl (x : Int × Int × Sl × Sl × Sl × Sl × Sl) : List Value := [Value.int .i64 x.1, Value.int .i64 x.2.1, Sl.toV x.2.2.1, Sl.toV x.2.2.2.1, Sl.toV x.2.2.2.2.1, Sl.toV x.2.2.2.2.2.1, Sl.toV x.2.2.2.2.2.2]
def C_sl_sl_sl_sl_sl (x : Sl × Sl × Sl × Sl × Sl) : List Value := [Sl.toV x.1, Sl.toV x.2.1, Sl.toV x.2.2.1, Sl.toV x.2.2.2.1, Sl.toV x.2.2.2.2]
abbrev g_math_bits_deBruijn32tab : Nat := 0
def nat_trim (x0 : Sl) (h : Heap) (Q : Sl → Heap → Prop) : Prop :=
 loop (fun (s0 : Sl) h0 (K0 : Sl → Heap → Prop) =>
 seq (fun (K0u1 : Bool → Heap → Prop) =>
 iteB (decide (((s0.len : Nat) : Int) > 0)) (
 idxS s0 (IntKind.wrap .i64 (((s0.len : Nat) : Int) - 1)) 1 fun a =>
 Lift.load (Value.int .u32) a h0 fun v =>
 K0u1 (v == 0) h0
 ) (
 K0u1 false h0
 )
 ) (fun t0 h0u1 =>
 iteB t0 (
 sliceOf s0 none (some (IntKind.wrap .i64 (((s0.len : Nat) : Int) - 1))) none 1 fun v_1 =>
 K0 v_1 h0u1
 ) (
 Q s0 h0u1
 )
 )
 ) x0 h
def nat_Of (n : Int) (h : Heap) (Q : Sl → Heap → Prop) : Prop :=
 new [Value.int .u32 (IntKind.wrap .u32 n), Value.int .u32 (IntKind.wrap .u32 (Int.fdiv n (2 ^ (min (Int.toNat 32) (IntKind.bits .u64)))))] h fun a h0 =>
 nat_trim (⟨some a, 2, 2⟩ : Sl) h0 fun v_1 h0u1 =>
 Q v_1 h0u1
def ratio_Of (n : Int) (h : Heap) (Q : (Bool × Sl × Sl) → Heap → Prop) : Prop :=
 mem h fun h0 =>
 Let (IntKind.wrap .u64 n : Int) fun size =>
 seq (fun (K0 : Int → Heap → Prop) =>
 iteB (decide (n < 0)) (
 Let (IntKind.wrap .u64 (0 - size) : Int) fun size_1 =>
 K0 size_1 h0
 ) (
 K0 size h0
 )
 ) (fun t0 h0u1 =>
 nat_Of t0 h0u1 fun v h0u2 =>
 Q (decide (n < 0), v, Sl.nil) h0u2
 )
def law14uone (h : Heap) (Q : (Int × Int × Sl × Sl × Sl × Sl × Sl) → Heap → Prop) : Prop :=
 mem h fun h0 =>
 ratio_Of 1 h0 fun v h0u1 =>
 ratio_Of 1 h0u1 fun v_1 h0u2 =>
 new [Value.int .i64 0, Value.bool v.1, Sl.toV v.2.1, Sl.toV v.2.2, Value.int .i64 1, Value.bool v_1.1, Sl.toV v_1.2.1, Sl.toV v_1.2.2] h0u2 fun a h0u3 =>
 new [Value.bool false, Sl.toV Sl.nil, Sl.toV Sl.nil, Sl.toV (⟨some a, 2, 2⟩ : Sl)] h0u3 fun a_1 h0u4 =>
 Q (0, 2, (⟨some a_1, 1, 1⟩ : Sl), Sl.nil, Sl.nil, Sl.nil, Sl.nil) h0u4
def slices_Clone_api_Poly_api_Poly (s0 : Sl) (h : Heap) (Q : Sl → Heap → Prop) : Prop :=
 iteB s0.a.isNone (
 Q Sl.nil h
 ) (
 new [] h fun a h0 =>
 appendS 4 80 (⟨some a, 0, 0⟩ : Sl) s0 h0 fun v_1 h0u1 =>
 Q v_1 h0u1
 )
def tableau_New (p : Int × Int × Sl × Sl × Sl × Sl × Sl) (h : Heap) (Q : (Sl × Sl × Sl × Sl × Sl) → Heap → Prop) : Prop :=
 mem h fun h0 =>
 Let (IntKind.wrap .i64 (p.2.1 + ((p.2.2.1.len : Nat) : Int)) : Int) fun n =>
 loop (fun (s0 : Int × Sl × Sl × Sl × Sl × Sl) h0u1 (K0 : (Int × Sl × Sl × Sl × Sl × Sl) → Heap → Prop) =>
 iteB (decide (s0.1 < ((p.2.2.1.len : Nat) : Int))) (
 new [Value.int .i64 (IntKind.wrap .i64 (p.2.1 + s0.1))] h0u1 fun a h0u2 =>
 appendS 1 8 s0.2.1 (⟨some a, 1, 1⟩ : Sl) h0u2 fun v_1 h0u3 =>
 K0 (IntKind.wrap .i64 (s0.1 + 1), v_1, s0.2.2.1, s0.2.2.2.1, s0.2.2.2.2.1, s0.2.2.2.2.2) h0u3
 ) (
 slices_Clone_api_Poly_api_Poly p.2.2.1 h0u1 fun v_2 h0u4 =>
 seq (fun (K0u1 : (Sl × Sl × Sl × Sl × Sl) → Heap → Prop) =>
 (
 mkS [Value.bool false, Sl.toV Sl.nil, Sl.toV Sl.nil, Value.bool false, Sl.toV Sl.nil, Sl.toV Sl.nil] 112 n n h0u4 fun v_3 h0u6 =>
 (
 mkS [Value.int .i64 0, Value.bool false, Sl.toV Sl.nil, Sl.toV Sl.nil, Value.bool false, Sl.toV Sl.nil, Sl.toV Sl.nil] 120 n n h0u6 fun v_11 h0u14 =>
 mkS [Value.int .i64 0, Value.bool false, Sl.toV Sl.nil, Sl.toV Sl.nil, Value.bool false, Sl.toV Sl.nil, Sl.toV Sl.nil] 120 n n h0u14 fun v_13 h0u16 =>
 K0u1 (s0.2.1, v_2, v_3, v_11, v_13) h0u16
 ) ∧ (
 mkS [Value.int .i64 0, Value.bool false, Sl.toV Sl.nil, Sl.toV Sl.nil, Value.bool false, Sl.toV Sl.nil, Sl.toV Sl.nil] 120 n n h0u6 fun v_14 h0u17 =>
 mkS [Value.int .i64 0, Value.bool false, Sl.toV Sl.nil, Sl.toV Sl.nil, Value.bool false, Sl.toV Sl.nil, Sl.toV Sl.nil] 120 n n h0u17 fun v_15 h0u18 =>
 K0u1 (s0.2.1, v_2, v_3, v_15, v_14) h0u18
 )
 ) ∧ (
 mkS [Value.int .i64 0, Value.bool false, Sl.toV Sl.nil, Sl.toV Sl.nil, Value.bool false, Sl.toV Sl.nil, Sl.toV Sl.nil] 120 n n h0u4 fun v_16 h0u19 =>
 (
 mkS [Value.bool false, Sl.toV Sl.nil, Sl.toV Sl.nil, Value.bool false, Sl.toV Sl.nil, Sl.toV Sl.nil] 112 n n h0u19 fun v_17 h0u20 =>
 mkS [Value.int .i64 0, Value.bool false, Sl.toV Sl.nil, Sl.toV Sl.nil, Value.bool false, Sl.toV Sl.nil, Sl.toV Sl.nil] 120 n n h0u20 fun v_20 h0u23 =>
 K0u1 (s0.2.1, v_2, v_17, v_16, v_20) h0u23
 ) ∧ (
 mkS [Value.int .i64 0, Value.bool false, Sl.toV Sl.nil, Sl.toV Sl.nil, Value.bool false, Sl.toV Sl.nil, Sl.toV Sl.nil] 120 n n h0u19 fun v_21 h0u24 =>
 mkS [Value.bool false, Sl.toV Sl.nil, Sl.toV Sl.nil, Value.bool false, Sl.toV Sl.nil, Sl.toV Sl.nil] 112 n n h0u24 fun v_22 h0u25 =>
 K0u1 (s0.2.1, v_2, v_22, v_16, v_21) h0u25
 )
 ) ∧ (
 mkS [Value.int .i64 0, Value.bool false, Sl.toV Sl.nil, Sl.toV Sl.nil, Value.bool false, Sl.toV Sl.nil, Sl.toV Sl.nil] 120 n n h0u4 fun v_23 h0u26 =>
 (
 mkS [Value.bool false, Sl.toV Sl.nil, Sl.toV Sl.nil, Value.bool false, Sl.toV Sl.nil, Sl.toV Sl.nil] 112 n n h0u26 fun v_24 h0u27 =>
 mkS [Value.int .i64 0, Value.bool false, Sl.toV Sl.nil, Sl.toV Sl.nil, Value.bool false, Sl.toV Sl.nil, Sl.toV Sl.nil] 120 n n h0u27 fun v_26 h0u29 =>
 K0u1 (s0.2.1, v_2, v_24, v_26, v_23) h0u29
 ) ∧ (
 mkS [Value.int .i64 0, Value.bool false, Sl.toV Sl.nil, Sl.toV Sl.nil, Value.bool false, Sl.toV Sl.nil, Sl.toV Sl.nil] 120 n n h0u26 fun v_27 h0u30 =>
 mkS [Value.bool false, Sl.toV Sl.nil, Sl.toV Sl.nil, Value.bool false, Sl.toV Sl.nil, Sl.toV Sl.nil] 112 n n h0u30 fun v_28 h0u31 =>
 K0u1 (s0.2.1, v_2, v_28, v_27, v_23) h0u31
 )
 )
 ) (fun t0 h0u5 =>
 Q (t0.1, t0.2.1, t0.2.2.1, t0.2.2.2.1, t0.2.2.2.2) h0u5
 )
 )
 ) (0, Sl.nil, Sl.nil, Sl.nil, Sl.nil, Sl.nil) h0
def nat_New (limbs : Int) (h : Heap) (Q : ((Option Addr)) → Heap → Prop) : Prop :=
 new [Value.int .i64 (if 1 > limbs then 1 else limbs), Value.bool false] h fun a h0 =>
 Q (some a) h0
def tableau_coef_c1 (m0 : Int × Bool × Sl × Sl) (v : Int) (h : Heap) (Q : Int → Heap → Prop) : Prop :=
 mem h fun h0 =>
 Q (IntKind.wrap .i64 (m0.1 - v)) h0
def slices_BinarySearchFunc_api_Mono_api_Mono_int__tableau_coef_c1 (x0 : Sl) (target : Int) (h : Heap) (Q : (Int × Bool) → Heap → Prop) : Prop :=
 Let (((x0.len : Nat) : Int) : Int) fun n =>
 loop (fun (s0 : Int × Int) h0 (K0 : (Int × Int) → Heap → Prop) =>
 iteB (decide (s0.1 < s0.2)) (
 Let (IntKind.wrap .i64 (Int.fdiv (IntKind.wrap .u64 (IntKind.wrap .i64 (s0.1 + s0.2))) (2 ^ (min (Int.toNat 1) (IntKind.bits .u64)))) : Int) fun h0u1 =>
 idxS x0 h0u1 4 fun a =>
 loadS C_i64ubool_sl_sl 4 a h0 fun v =>
 tableau_coef_c1 (v.1, v.2.1, v.2.2.1, v.2.2.2) target h0 fun v_1 h0u2 =>
 iteB (decide (v_1 < 0)) (
 Let (IntKind.wrap .i64 (h0u1 + 1) : Int) fun i =>
 K0 (i, s0.2) h0u2
 ) (
 K0 (s0.1, h0u1) h0u2
 )
 ) (
 seq (fun (K0u1 : (Int × Bool) → Heap → Prop) =>
 iteB (decide (s0.1 < n)) (
 idxS x0 s0.1 4 fun a_1 =>
 loadS C_i64ubool_sl_sl 4 a_1 h0 fun v_2 =>
 tableau_coef_c1 (v_2.1, v_2.2.1, v_2.2.2.1, v_2.2.2.2) target h0 fun v_3 h0u4 =>
 K0u1 (s0.1, (v_3 == 0)) h0u4
 ) (
 K0u1 (s0.1, false) h0
 )
 ) (fun t0 h0u3 =>
 Q (t0.1, t0.2) h0u3
 )
 )
 ) (0, n) h
def tableau_coef (p : Bool × Sl × Sl × Sl) (v : Int) (h : Heap) (Q : (Bool × Sl × Sl) → Heap → Prop) : Prop :=
 mem h fun h0 =>
 slices_BinarySearchFunc_api_Mono_api_Mono_int__tableau_coef_c1 p.2.2.2 v h0 fun v_1 h0u1 =>
 iteB (!v_1.2) (
 Q (false, Sl.nil, Sl.nil) h0u1
 ) (
 idxS p.2.2.2 v_1.1 4 fun a =>
 loadS C_bool_sl_sl 3 (a.add 1) h0u1 fun v_2 =>
 Q (v_2.1, v_2.2.1, v_2.2.2) h0u1
 )
def ratio_Sign (x0 : Bool × Sl × Sl) (h : Heap) (Q : Int → Heap → Prop) : Prop :=
 mem h fun h0 =>
 iteB (((x0.2.1.len : Nat) : Int) == 0) (
 Q 0 h0
 ) (
 iteB x0.1 (
 Q (-1) h0
 ) (
 Q 1 h0
 )
 )
def ratio_free (h : Heap) (Q : ((Option Addr)) → Heap → Prop) : Prop :=
 nat_New 16777216 h fun v h0 =>
 Q v h0
def ratio_one (h : Heap) (Q : Sl → Heap → Prop) : Prop :=
 new [Value.int .u32 1] h fun a h0 =>
 Q (⟨some a, 1, 1⟩ : Sl) h0
def ratio_den (x0 : Bool × Sl × Sl) (h : Heap) (Q : Sl → Heap → Prop) : Prop :=
 mem h fun h0 =>
 iteB (((x0.2.2.len : Nat) : Int) == 0) (
 ratio_one h0 fun v h0u1 =>
 Q v h0u1
 ) (
 Q x0.2.2 h0
 )
def nat_times (x0 : Sl) (y : Sl) (h : Heap) (Q : Sl → Heap → Prop) : Prop :=
 Let (IntKind.wrap .i64 (((x0.len : Nat) : Int) + ((y.len : Nat) : Int)) : Int) fun t15 =>
 mkS [Value.int .u32 0] 4 t15 t15 h fun v h0 =>
 loop (fun (s0 : Int) h0u1 (K0 : Int → Heap → Prop) =>
 iteB (decide (s0 < ((x0.len : Nat) : Int))) (
 idxS x0 s0 1 fun a =>
 Lift.load (Value.int .u32) a h0u1 fun v_1 =>
 loop (fun (s0u1 : Int × Int) h0u2 (K0u1 : (Int × Int) → Heap → Prop) =>
 iteB (decide (s0u1.2 < ((y.len : Nat) : Int))) (
 idxS y s0u1.2 1 fun a_1 =>
 Lift.load (Value.int .u32) a_1 h0u2 fun v_2 =>
 idxS v (IntKind.wrap .i64 (s0 + s0u1.2)) 1 fun a_2 =>
 Lift.load (Value.int .u32) a_2 h0u2 fun v_3 =>
 Let (IntKind.wrap .u64 (s0u1.1 + (IntKind.wrap .u64 ((IntKind.wrap .u64 ((IntKind.wrap .u64 v_1) * (IntKind.wrap .u64 v_2))) + (IntKind.wrap .u64 v_3)))) : Int) fun carry =>
 idxS v (IntKind.wrap .i64 (s0 + s0u1.2)) 1 fun a_3 =>
 Lift.store a_3 (Value.int .u32 (IntKind.wrap .u32 carry)) h0u2 fun h0u3 =>
 Let (Int.fdiv carry (2 ^ (min (Int.toNat 32) (IntKind.bits .u64))) : Int) fun carry_1 =>
 K0u1 (carry_1, IntKind.wrap .i64 (s0u1.2 + 1)) h0u3
 ) (
 idxS v (IntKind.wrap .i64 (s0 + ((y.len : Nat) : Int))) 1 fun a_4 =>
 Lift.store a_4 (Value.int .u32 (IntKind.wrap .u32 s0u1.1)) h0u2 fun h0u4 =>
 K0 (IntKind.wrap .i64 (s0 + 1)) h0u4
 )
 ) (0, 0) h0u1
 ) (
 Q v h0u1
 )
 ) 0 h0
def slices_Clone_api_Nat_uint32 (s0 : Sl) (h : Heap) (Q : Sl → Heap → Prop) : Prop :=
 iteB s0.a.isNone (
 Q Sl.nil h
 ) (
 new [] h fun a h0 =>
 appendS 1 4 (⟨some a, 0, 0⟩ : Sl) s0 h0 fun v_1 h0u1 =>
 Q v_1 h0u1
 )
def nat_Bench_fit (b : (Option Addr)) (x0 : Sl) (h : Heap) (Q : Sl → Heap → Prop) : Prop :=
 nat_trim x0 h fun v h0 =>
 seq (fun (K0 : Unit → Heap → Prop) =>
 nilChk b fun a =>
 Lift.load Value.bool (a.add 1) h0 fun v_1 =>
 iteB v_1 (
 nilChk b fun a_1 =>
 Lift.store (a_1.add 1) (Value.bool true) h0 fun h0u2 =>
 K0 () h0u2
 ) (
 nilChk b fun a_2 =>
 Lift.load (Value.int .i64) (a_2.add 0) h0 fun v_2 =>
 nilChk b fun a_3 =>
 Lift.store (a_3.add 1) (Value.bool (decide (((v.len : Nat) : Int) > v_2))) h0 fun h0u3 =>
 K0 () h0u3
 )
 ) (fun t0 h0u1 =>
 nilChk b fun a_4 =>
 Lift.load Value.bool (a_4.add 1) h0u1 fun v_3 =>
 iteB v_3 (
 Q Sl.nil h0u1
 ) (
 slices_Clone_api_Nat_uint32 v h0u1 fun v_4 h0u4 =>
 Q v_4 h0u4
 )
 )
def nat_Bench_Mul (b : (Option Addr)) (x0 : Sl) (y : Sl) (h : Heap) (Q : Sl → Heap → Prop) : Prop :=
 nat_trim x0 h fun v h0 =>
 nat_trim y h0 fun v_1 h0u1 =>
 nat_times v v_1 h0u1 fun v_2 h0u2 =>
 nat_Bench_fit b v_2 h0u2 fun v_3 h0u3 =>
 Q v_3 h0u3
def nat_small (x0 : Sl) (h : Heap) (Q : (Int × Bool) → Heap → Prop) : Prop :=
 nat_trim x0 h fun v h0 =>
 Let (IntKind.wrap .i64 (((v.len : Nat) : Int) - 1) : Int) fun i =>
 loop (fun (s0 : Int × Int) h0u1 (K0 : (Int × Int) → Heap → Prop) =>
 iteB (decide (s0.2 ≥ 0)) (
 idxS v s0.2 1 fun a =>
 Lift.load (Value.int .u32) a h0u1 fun v_1 =>
 Let (IntKind.wrap .u64 (((BitVec.ofInt (IntKind.bits .u64) (IntKind.wrap .u64 (s0.1 * 2 ^ (min (Int.toNat 32) (IntKind.bits .u64)))) ||| BitVec.ofInt (IntKind.bits .u64) (IntKind.wrap .u64 v_1)).toNat : Int)) : Int) fun n =>
 Let (IntKind.wrap .i64 (s0.2 - 1) : Int) fun i_1 =>
 K0 (n, i_1) h0u1
 ) (
 Let (decide (((v.len : Nat) : Int) ≤ 2) : Bool) fun ok =>
 Q (s0.1, ok) h0u1
 )
 ) (0, i) h0
def math_bits_TrailingZeros32 (x0 : Int) (h : Heap) (Q : Int → Heap → Prop) : Prop :=
 iteB (x0 == 0) (
 Q 32 h
 ) (
 ((0 : Int) ≤ ((Int.fdiv (IntKind.wrap .u32 ((IntKind.wrap .u32 (((BitVec.ofInt (IntKind.bits .u32) x0 &&& BitVec.ofInt (IntKind.bits .u32) (IntKind.wrap .u32 (0 - x0))).toNat : Int))) * 125613361)) (2 ^ (min (Int.toNat 27) (IntKind.bits .u32)))) : Int) ∧ ((Int.fdiv (IntKind.wrap .u32 ((IntKind.wrap .u32 (((BitVec.ofInt (IntKind.bits .u32) x0 &&& BitVec.ofInt (IntKind.bits .u32) (IntKind.wrap .u32 (0 - x0))).toNat : Int))) * 125613361)) (2 ^ (min (Int.toNat 27) (IntKind.bits .u32)))) : Int) < 32) ∧
 Lift.load (Value.int .u8) ((⟨g_math_bits_deBruijn32tab, 0, none⟩ : Addr).add (Int.toNat (Int.fdiv (IntKind.wrap .u32 ((IntKind.wrap .u32 (((BitVec.ofInt (IntKind.bits .u32) x0 &&& BitVec.ofInt (IntKind.bits .u32) (IntKind.wrap .u32 (0 - x0))).toNat : Int))) * 125613361)) (2 ^ (min (Int.toNat 27) (IntKind.bits .u32)))) * 1)) h fun v =>
 Q (IntKind.wrap .i64 v) h
 )
def nat_halve (x0 : Sl) (h : Heap) (Q : (Sl × Int) → Heap → Prop) : Prop :=
 loop (fun (s0 : Int) h0 (K0 : Int → Heap → Prop) =>
 idxS x0 (IntKind.wrap .i64 (Int.tdiv s0 32)) 1 fun a =>
 Lift.load (Value.int .u32) a h0 fun v =>
 iteB (v == 0) (
 Let (IntKind.wrap .i64 (s0 + 32) : Int) fun k =>
 K0 k h0
 ) (
 idxS x0 (IntKind.wrap .i64 (Int.tdiv s0 32)) 1 fun a_1 =>
 Lift.load (Value.int .u32) a_1 h0 fun v_1 =>
 math_bits_TrailingZeros32 v_1 h0 fun v_2 h0u1 =>
 Let (IntKind.wrap .i64 (s0 + v_2) : Int) fun k_1 =>
 sliceOf x0 (some (IntKind.wrap .i64 (Int.tdiv k_1 32))) none none 1 fun v_3 =>
 slices_Clone_api_Nat_uint32 v_3 h0u1 fun v_4 h0u2 =>
 seq (fun (K0u1 : Unit → Heap → Prop) =>
 Let (Int.tmod k_1 32 : Int) fun s0u1 =>
 iteB (decide (s0u1 > 0)) (
 loop (fun (s0u2 : Int) h0u4 (K0u2 : Int → Heap → Prop) =>
 iteB (decide (s0u2 < ((v_4.len : Nat) : Int))) (
 seq (fun (K0u3 : Unit → Heap → Prop) =>
 idxS v_4 s0u2 1 fun a_2 =>
 Lift.load (Value.int .u32) a_2 h0u4 fun v_5 =>
 (0 ≤ s0u1) ∧
 idxS v_4 s0u2 1 fun a_3 =>
 Lift.store a_3 (Value.int .u32 (Int.fdiv v_5 (2 ^ (min (Int.toNat s0u1) (IntKind.bits .u32))))) h0u4 fun h0u6 =>
 iteB (decide ((IntKind.wrap .i64 (s0u2 + 1)) < ((v_4.len : Nat) : Int))) (
 idxS v_4 s0u2 1 fun a_4 =>
 Lift.load (Value.int .u32) a_4 h0u6 fun v_6 =>
 idxS v_4 (IntKind.wrap .i64 (s0u2 + 1)) 1 fun a_5 =>
 Lift.load (Value.int .u32) a_5 h0u6 fun v_7 =>
 (0 ≤ (IntKind.wrap .i64 (32 - s0u1))) ∧
 idxS v_4 s0u2 1 fun a_6 =>
 Lift.store a_6 (Value.int .u32 (IntKind.wrap .u32 (((BitVec.ofInt (IntKind.bits .u32) v_6 ||| BitVec.ofInt (IntKind.bits .u32) (IntKind.wrap .u32 (v_7 * 2 ^ (min (Int.toNat (IntKind.wrap .i64 (32 - s0u1))) (IntKind.bits .u32))))).toNat : Int)))) h0u6 fun h0u7 =>
 K0u3 () h0u7
 ) (
 K0u3 () h0u6
 )
 ) (fun t0u1 h0u5 =>
 K0u2 (IntKind.wrap .i64 (s0u2 + 1)) h0u5
 )
 ) (
 K0u1 () h0u4
 )
 ) 0 h0u2
 ) (
 K0u1 () h0u2
 )
 ) (fun t0 h0u3 =>
 nat_trim v_4 h0u3 fun v_8 h0u8 =>
 Q (v_8, k_1) h0u8
 )
 )
 ) 0 h
def nat_sign (n : Int) (h : Heap) (Q : Int → Heap → Prop) : Prop :=
 Q (if (-1) > (if 1 < n then 1 else n) then (-1) else (if 1 < n then 1 else n)) h
def nat_Cmp (x0 : Sl) (y : Sl) (h : Heap) (Q : Int → Heap → Prop) : Prop :=
 nat_trim x0 h fun v h0 =>
 nat_trim y h0 fun v_1 h0u1 =>
 iteB (((v.len : Nat) : Int) != ((v_1.len : Nat) : Int)) (
 nat_sign (IntKind.wrap .i64 (((v.len : Nat) : Int) - ((v_1.len : Nat) : Int))) h0u1 fun v_2 h0u2 =>
 Q v_2 h0u2
 ) (
 Let (IntKind.wrap .i64 (((v.len : Nat) : Int) - 1) : Int) fun i =>
 loop (fun (s0 : Int) h0u3 (K0 : Int → Heap → Prop) =>
 iteB (decide (s0 ≥ 0)) (
 idxS v s0 1 fun a =>
 Lift.load (Value.int .u32) a h0u3 fun v_3 =>
 idxS v_1 s0 1 fun a_1 =>
 Lift.load (Value.int .u32) a_1 h0u3 fun v_4 =>
 iteB (v_3 != v_4) (
 idxS v s0 1 fun a_2 =>
 Lift.load (Value.int .u32) a_2 h0u3 fun v_5 =>
 idxS v_1 s0 1 fun a_3 =>
 Lift.load (Value.int .u32) a_3 h0u3 fun v_6 =>
 nat_sign (IntKind.wrap .i64 ((IntKind.wrap .i64 v_5) - (IntKind.wrap .i64 v_6))) h0u3 fun v_7 h0u4 =>
 Q v_7 h0u4
 ) (
 Let (IntKind.wrap .i64 (s0 - 1) : Int) fun i_1 =>
 K0 i_1 h0u3
 )
 ) (
 Q 0 h0u3
 )
 ) i h0u1
 )
def nat_minus (x0 : Sl) (y : Sl) (h : Heap) (Q : Sl → Heap → Prop) : Prop :=
 loop (fun (s0 : Sl × Int × Int) h0 (K0 : (Sl × Int × Int) → Heap → Prop) =>
 iteB (decide (s0.2.2 < ((x0.len : Nat) : Int))) (
 idxS x0 s0.2.2 1 fun a =>
 Lift.load (Value.int .u32) a h0 fun v =>
 Let (IntKind.wrap .u64 ((IntKind.wrap .u64 v) - s0.2.1) : Int) fun d =>
 seq (fun (K0u1 : Int → Heap → Prop) =>
 iteB (decide (s0.2.2 < ((y.len : Nat) : Int))) (
 idxS y s0.2.2 1 fun a_1 =>
 Lift.load (Value.int .u32) a_1 h0 fun v_1 =>
 Let (IntKind.wrap .u64 (d - (IntKind.wrap .u64 v_1)) : Int) fun d_1 =>
 K0u1 d_1 h0
 ) (
 K0u1 d h0
 )
 ) (fun t0 h0u1 =>
 new [Value.int .u32 (IntKind.wrap .u32 t0)] h0u1 fun a_2 h0u2 =>
 appendS 1 4 s0.1 (⟨some a_2, 1, 1⟩ : Sl) h0u2 fun v_3 h0u3 =>
 Let (Int.fdiv t0 (2 ^ (min (Int.toNat 63) (IntKind.bits .u64))) : Int) fun borrow =>
 K0 (v_3, borrow, IntKind.wrap .i64 (s0.2.2 + 1)) h0u3
 )
 ) (
 nat_trim s0.1 h0 fun v_4 h0u4 =>
 Q v_4 h0u4
 )
 ) (Sl.nil, 0, 0) h
def nat_double (x0 : Sl) (k : Int) (h : Heap) (Q : Sl → Heap → Prop) : Prop :=
 Let (IntKind.wrap .i64 ((IntKind.wrap .i64 (Int.tdiv k 32)) + 1) : Int) fun t8 =>
 mkS [Value.int .u32 0] 4 t8 t8 h fun v h0 =>
 (0 ≤ (Int.tmod k 32)) ∧
 idxS v (IntKind.wrap .i64 (Int.tdiv k 32)) 1 fun a =>
 Lift.store a (Value.int .u32 (IntKind.wrap .u32 (1 * 2 ^ (min (Int.toNat (Int.tmod k 32)) (IntKind.bits .u32))))) h0 fun h0u1 =>
 nat_times x0 v h0u1 fun v_1 h0u2 =>
 nat_trim v_1 h0u2 fun v_2 h0u3 =>
 Q v_2 h0u3
def nat_common (x0 : Sl) (y : Sl) (h : Heap) (Q : Sl → Heap → Prop) : Prop :=
 nat_trim x0 h fun v h0 =>
 nat_trim y h0 fun v_1 h0u1 =>
 iteB (((v.len : Nat) : Int) == 0) (
 Q v_1 h0u1
 ) (
 iteB (((v_1.len : Nat) : Int) == 0) (
 Q v h0u1
 ) (
 seq (fun (K0 : Unit → Heap → Prop) =>
 nat_small v h0u1 fun v_2 h0u3 =>
 iteB v_2.2 (
 nat_small v_1 h0u3 fun v_3 h0u4 =>
 iteB v_3.2 (
 loop (fun (s0 : Int × Int) h0u5 (K0u1 : (Int × Int) → Heap → Prop) =>
 iteB (s0.2 != 0) (
 (s0.2 ≠ 0) ∧
 Let (Int.tmod s0.1 s0.2 : Int) fun m0 =>
 K0u1 (s0.2, m0) h0u5
 ) (
 nat_Of s0.1 h0u5 fun v_4 h0u6 =>
 Q v_4 h0u6
 )
 ) (v_2.1, v_3.1) h0u4
 ) (
 K0 () h0u4
 )
 ) (
 K0 () h0u3
 )
 ) (fun t0 h0u2 =>
 nat_halve v h0u2 fun v_5 h0u7 =>
 nat_halve v_1 h0u7 fun v_6 h0u8 =>
 loop (fun (s0u1 : Sl × Sl) h0u9 (K0u2 : (Sl × Sl) → Heap → Prop) =>
 nat_Cmp s0u1.1 s0u1.2 h0u9 fun v_7 h0u10 =>
 iteB (v_7 != 0) (
 seq (fun (K0u3 : (Sl × Sl) → Heap → Prop) =>
 nat_Cmp s0u1.1 s0u1.2 h0u10 fun v_8 h0u12 =>
 iteB (decide (v_8 < 0)) (
 K0u3 (s0u1.2, s0u1.1) h0u12
 ) (
 K0u3 (s0u1.1, s0u1.2) h0u12
 )
 ) (fun t0u1 h0u11 =>
 nat_minus t0u1.1 t0u1.2 h0u11 fun v_9 h0u13 =>
 nat_halve v_9 h0u13 fun v_10 h0u14 =>
 K0u2 (v_10.1, t0u1.2) h0u14
 )
 ) (
 nat_double s0u1.1 (if v_6.2 < v_5.2 then v_6.2 else v_5.2) h0u10 fun v_11 h0u15 =>
 Q v_11 h0u15
 )
 ) (v_5.1, v_6.1) h0u8
 )
 )
 )
def nat_Bench_Gcd (b : (Option Addr)) (x0 : Sl) (y : Sl) (h : Heap) (Q : Sl → Heap → Prop) : Prop :=
 nat_common x0 y h fun v h0 =>
 nat_Bench_fit b v h0 fun v_1 h0u1 =>
 Q v_1 h0u1
def nat_plus (x0 : Sl) (y : Sl) (h : Heap) (Q : Sl → Heap → Prop) : Prop :=
 loop (fun (s0 : Sl × Int × Int) h0 (K0 : (Sl × Int × Int) → Heap → Prop) =>
 iteB (decide (s0.2.2 < (if ((y.len : Nat) : Int) > ((x0.len : Nat) : Int) then ((y.len : Nat) : Int) else ((x0.len : Nat) : Int)))) (
 loop (fun (s0u1 : Int × Int) h0u1 (K0u1 : (Int × Int) → Heap → Prop) =>
 iteB (decide (s0u1.2 < 2)) (
 seq (fun (K0u2 : Int → Heap → Prop) =>
 idxV Sl.toV [Sl.toV x0, Sl.toV y] 2 s0u1.2 1 fun v =>
 iteB (decide (s0.2.2 < ((v.len : Nat) : Int))) (
 idxS v s0.2.2 1 fun a =>
 Lift.load (Value.int .u32) a h0u1 fun v_1 =>
 Let (IntKind.wrap .u64 (s0u1.1 + (IntKind.wrap .u64 v_1)) : Int) fun carry =>
 K0u2 carry h0u1
 ) (
 K0u2 s0u1.1 h0u1
 )
 ) (fun t0 h0u2 =>
 K0u1 (t0, IntKind.wrap .i64 (s0u1.2 + 1)) h0u2
 )
 ) (
 new [Value.int .u32 (IntKind.wrap .u32 s0u1.1)] h0u1 fun a_1 h0u3 =>
 appendS 1 4 s0.1 (⟨some a_1, 1, 1⟩ : Sl) h0u3 fun v_3 h0u4 =>
 Let (Int.fdiv s0u1.1 (2 ^ (min (Int.toNat 32) (IntKind.bits .u64))) : Int) fun carry_1 =>
 K0 (v_3, carry_1, IntKind.wrap .i64 (s0.2.2 + 1)) h0u4
 )
 ) (s0.2.1, 0) h0
 ) (
 new [Value.int .u32 (IntKind.wrap .u32 s0.2.1)] h0 fun a_2 h0u5 =>
 appendS 1 4 s0.1 (⟨some a_2, 1, 1⟩ : Sl) h0u5 fun v_5 h0u6 =>
 Q v_5 h0u6
 )
 ) (Sl.nil, 0, 0) h
def nat_bit (x0 : Sl) (at0 : Int) (h : Heap) (Q : Int → Heap → Prop) : Prop :=
 idxS x0 (IntKind.wrap .i64 (Int.tdiv at0 32)) 1 fun a =>
 Lift.load (Value.int .u32) a h fun v =>
 (0 ≤ (Int.tmod at0 32)) ∧
 Q (IntKind.wrap .u32 (((BitVec.ofInt (IntKind.bits .u32) (Int.fdiv v (2 ^ (min (Int.toNat (Int.tmod at0 32)) (IntKind.bits .u32)))) &&& BitVec.ofInt (IntKind.bits .u32) 1).toNat : Int))) h
def nat_divide (x0 : Sl) (y : Sl) (h : Heap) (Q : (Sl × Sl) → Heap → Prop) : Prop :=
 nat_small x0 h fun v h0 =>
 nat_small y h0 fun v_1 h0u1 =>
 seq (fun (K0 : Bool → Heap → Prop) =>
 iteB v.2 (
 K0 v_1.2 h0u1
 ) (
 K0 false h0u1
 )
 ) (fun t0 h0u2 =>
 iteB t0 (
 (v_1.1 ≠ 0) ∧
 (v_1.1 ≠ 0) ∧
 nat_Of (IntKind.wrap .u64 (Int.tdiv v.1 v_1.1)) h0u2 fun v_2 h0u3 =>
 nat_Of (Int.tmod v.1 v_1.1) h0u3 fun v_3 h0u4 =>
 Q (v_2, v_3) h0u4
 ) (
 nat_trim x0 h0u2 fun v_4 h0u5 =>
 nat_trim y h0u5 fun v_5 h0u6 =>
 Let (((v_4.len : Nat) : Int) : Int) fun t38 =>
 mkS [Value.int .u32 0] 4 t38 t38 h0u6 fun v_6 h0u7 =>
 Let (IntKind.wrap .i64 ((IntKind.wrap .i64 (((v_4.len : Nat) : Int) * 32)) - 1) : Int) fun at0 =>
 loop (fun (s0 : Sl × Int) h0u8 (K0u1 : (Sl × Int) → Heap → Prop) =>
 iteB (decide (s0.2 ≥ 0)) (
 seq (fun (K0u2 : Sl → Heap → Prop) =>
 nat_plus s0.1 s0.1 h0u8 fun v_7 h0u10 =>
 idxS v_7 0 1 fun a =>
 Lift.load (Value.int .u32) a h0u10 fun v_8 =>
 nat_bit v_4 s0.2 h0u10 fun v_9 h0u11 =>
 (cell? h0u11 a = some (Value.int .u32 v_8)) ∧
 idxS v_7 0 1 fun a_1 =>
 Lift.store a_1 (Value.int .u32 (IntKind.wrap .u32 (((BitVec.ofInt (IntKind.bits .u32) v_8 ||| BitVec.ofInt (IntKind.bits .u32) v_9).toNat : Int)))) h0u11 fun h0u12 =>
 nat_trim v_7 h0u12 fun v_10 h0u13 =>
 nat_Cmp v_10 v_5 h0u13 fun v_11 h0u14 =>
 iteB (decide (v_11 ≥ 0)) (
 nat_minus v_10 v_5 h0u14 fun v_12 h0u15 =>
 idxS v_6 (IntKind.wrap .i64 (Int.tdiv s0.2 32)) 1 fun a_2 =>
 Lift.load (Value.int .u32) a_2 h0u15 fun v_13 =>
 (0 ≤ (Int.tmod s0.2 32)) ∧
 idxS v_6 (IntKind.wrap .i64 (Int.tdiv s0.2 32)) 1 fun a_3 =>
 Lift.store a_3 (Value.int .u32 (IntKind.wrap .u32 (((BitVec.ofInt (IntKind.bits .u32) v_13 ||| BitVec.ofInt (IntKind.bits .u32) (IntKind.wrap .u32 (1 * 2 ^ (min (Int.toNat (Int.tmod s0.2 32)) (IntKind.bits .u32))))).toNat : Int)))) h0u15 fun h0u16 =>
 K0u2 v_12 h0u16
 ) (
 K0u2 v_10 h0u14
 )
 ) (fun t0u1 h0u9 =>
 Let (IntKind.wrap .i64 (s0.2 - 1) : Int) fun at0u1 =>
 K0u1 (t0u1, at0u1) h0u9
 )
 ) (
 nat_trim v_6 h0u8 fun v_14 h0u17 =>
 Q (v_14, s0.1) h0u17
 )
 ) (Sl.nil, at0) h0u7
 )
 )
def nat_Bench_Div (b : (Option Addr)) (x0 : Sl) (y : Sl) (h : Heap) (Q : (Sl × Sl) → Heap → Prop) : Prop :=
 nat_trim y h fun v h0 =>
 iteB (((v.len : Nat) : Int) == 0) (
 Q (Sl.nil, Sl.nil) h0
 ) (
 nat_divide x0 y h0 fun v_1 h0u1 =>
 nat_Bench_fit b v_1.1 h0u1 fun v_2 h0u2 =>
 nat_Bench_fit b v_1.2 h0u2 fun v_3 h0u3 =>
 nilChk b fun a =>
 Lift.load Value.bool (a.add 1) h0u3 fun v_4 =>
 iteB v_4 (
 Q (Sl.nil, Sl.nil) h0u3
 ) (
 Q (v_2, v_3) h0u3
 )
 )
def slices_Equal_api_Nat_uint32 (s1 : Sl) (s2 : Sl) (h : Heap) (Q : Bool → Heap → Prop) : Prop :=
 iteB (((s1.len : Nat) : Int) != ((s2.len : Nat) : Int)) (
 Q false h
 ) (
 loop (fun (s0 : Int) h0 (K0 : Int → Heap → Prop) =>
 iteB (decide (s0 < ((s1.len : Nat) : Int))) (
 idxS s1 s0 1 fun a =>
 Lift.load (Value.int .u32) a h0 fun v =>
 idxS s2 s0 1 fun a_1 =>
 Lift.load (Value.int .u32) a_1 h0 fun v_1 =>
 iteB (v != v_1) (
 Q false h0
 ) (
 K0 (IntKind.wrap .i64 (s0 + 1)) h0
 )
 ) (
 Q true h0
 )
 ) 0 h
 )
def ratio_isOne (x0 : Sl) (h : Heap) (Q : Bool → Heap → Prop) : Prop :=
 ratio_one h fun v h0 =>
 slices_Equal_api_Nat_uint32 x0 v h0 fun v_1 h0u1 =>
 Q v_1 h0u1
def ratio_form (neg : Bool) (num : Sl) (d : Sl) (h : Heap) (Q : (Bool × Sl × Sl) → Heap → Prop) : Prop :=
 mem h fun h0 =>
 ratio_free h0 fun v h0u1 =>
 nat_Bench_Gcd v num d h0u1 fun v_1 h0u2 =>
 nat_Bench_Div v num v_1 h0u2 fun v_2 h0u3 =>
 nat_Bench_Div v d v_1 h0u3 fun v_3 h0u4 =>
 seq (fun (K0 : Sl → Heap → Prop) =>
 ratio_isOne v_3.1 h0u4 fun v_4 h0u6 =>
 iteB v_4 (
 K0 Sl.nil h0u6
 ) (
 K0 v_3.1 h0u6
 )
 ) (fun t0 h0u5 =>
 iteB (((v_2.1.len : Nat) : Int) == 0) (
 Q (false, Sl.nil, Sl.nil) h0u5
 ) (
 Q (neg, v_2.1, t0) h0u5
 )
 )
def nat_Bench_Add (b : (Option Addr)) (x0 : Sl) (y : Sl) (h : Heap) (Q : Sl → Heap → Prop) : Prop :=
 nat_plus x0 y h fun v h0 =>
 nat_Bench_fit b v h0 fun v_1 h0u1 =>
 Q v_1 h0u1
def nat_Bench_Over (b : (Option Addr)) (h : Heap) (Q : Bool → Heap → Prop) : Prop :=
 nilChk b fun a =>
 Lift.load Value.bool (a.add 1) h fun v =>
 Q v h
def ratio_fit (b : (Option Addr)) (x0 : Bool × Sl × Sl) (h : Heap) (Q : (Bool × Sl × Sl) → Heap → Prop) : Prop :=
 mem h fun h0 =>
 nat_Bench_Add b x0.2.1 Sl.nil h0 fun v h0u1 =>
 nat_Bench_Add b x0.2.2 Sl.nil h0u1 fun v_1 h0u2 =>
 nat_Bench_Over b h0u2 fun v_2 h0u3 =>
 iteB v_2 (
 Q (false, Sl.nil, Sl.nil) h0u3
 ) (
 Q (x0.1, x0.2.1, x0.2.2) h0u3
 )
def ratio_Div (b : (Option Addr)) (x0 : Bool × Sl × Sl) (y : Bool × Sl × Sl) (h : Heap) (Q : (Bool × Sl × Sl) → Heap → Prop) : Prop :=
 mem h fun h0 =>
 ratio_Sign (y.1, y.2.1, y.2.2) h0 fun v h0u1 =>
 iteB (v == 0) (
 Q (false, Sl.nil, Sl.nil) h0u1
 ) (
 ratio_free h0u1 fun v_1 h0u2 =>
 ratio_den (y.1, y.2.1, y.2.2) h0u2 fun v_2 h0u3 =>
 nat_Bench_Mul v_1 x0.2.1 v_2 h0u3 fun v_3 h0u4 =>
 ratio_den (x0.1, x0.2.1, x0.2.2) h0u4 fun v_4 h0u5 =>
 nat_Bench_Mul v_1 v_4 y.2.1 h0u5 fun v_5 h0u6 =>
 ratio_form (!(x0.1 == y.1)) v_3 v_5 h0u6 fun v_6 h0u7 =>
 ratio_fit b (v_6.1, v_6.2.1, v_6.2.2) h0u7 fun v_7 h0u8 =>
 Q (v_7.1, v_7.2.1, v_7.2.2) h0u8
 )
def linear_Of (v : Int) (h : Heap) (Q : (Bool × Sl × Sl × Sl) → Heap → Prop) : Prop :=
 mem h fun h0 =>
 ratio_Of 1 h0 fun v_1 h0u1 =>
 new [Value.int .i64 v, Value.bool v_1.1, Sl.toV v_1.2.1, Sl.toV v_1.2.2] h0u1 fun a h0u2 =>
 Q (false, Sl.nil, Sl.nil, (⟨some a, 1, 1⟩ : Sl)) h0u2
def ratio_Mul (b : (Option Addr)) (x0 : Bool × Sl × Sl) (y : Bool × Sl × Sl) (h : Heap) (Q : (Bool × Sl × Sl) → Heap → Prop) : Prop :=
 mem h fun h0 =>
 ratio_free h0 fun v h0u1 =>
 nat_Bench_Mul v x0.2.1 y.2.1 h0u1 fun v_1 h0u2 =>
 ratio_den (x0.1, x0.2.1, x0.2.2) h0u2 fun v_2 h0u3 =>
 ratio_den (y.1, y.2.1, y.2.2) h0u3 fun v_3 h0u4 =>
 nat_Bench_Mul v v_2 v_3 h0u4 fun v_4 h0u5 =>
 ratio_form (!(x0.1 == y.1)) v_1 v_4 h0u5 fun v_5 h0u6 =>
 ratio_fit b (v_5.1, v_5.2.1, v_5.2.2) h0u6 fun v_6 h0u7 =>
 Q (v_6.1, v_6.2.1, v_6.2.2) h0u7
def linear_Scale_c1 (x0 : Bool × Sl × Sl) (c0 : Addr) (c1 : Addr) (h : Heap) (Q : (Bool × Sl × Sl) → Heap → Prop) : Prop :=
 mem h fun h0 =>
 Lift.load Value.pointer c0 h0 fun v =>
 loadS C_bool_sl_sl 3 c1 h0 fun v_1 =>
 ratio_Mul v (v_1.1, v_1.2.1, v_1.2.2) (x0.1, x0.2.1, x0.2.2) h0 fun v_2 h0u1 =>
 Q (v_2.1, v_2.2.1, v_2.2.2) h0u1
def linear_kept (b : (Option Addr)) (p : Bool × Sl × Sl × Sl) (h : Heap) (Q : (Bool × Sl × Sl × Sl) → Heap → Prop) : Prop :=
 mem h fun h0 =>
 nat_Bench_Over b h0 fun v h0u1 =>
 iteB v (
 Q (false, Sl.nil, Sl.nil, Sl.nil) h0u1
 ) (
 Q (p.1, p.2.1, p.2.2.1, p.2.2.2) h0u1
 )
def linear_Scale (b : (Option Addr)) (k : Bool × Sl × Sl) (p : Bool × Sl × Sl × Sl) (h : Heap) (Q : (Bool × Sl × Sl × Sl) → Heap → Prop) : Prop :=
 new [Value.pointer b] h fun b_1 h0 =>
 new [Value.bool k.1, Sl.toV k.2.1, Sl.toV k.2.2] h0 fun k_1 h0u1 =>
 mem h0u1 fun h0u2 =>
 loadS C_bool_sl_sl 3 k_1 h0u2 fun v =>
 ratio_Sign (v.1, v.2.1, v.2.2) h0u2 fun v_1 h0u3 =>
 iteB (v_1 == 0) (
 Q (false, Sl.nil, Sl.nil, Sl.nil) h0u3
 ) (
 linear_Scale_c1 (p.1, p.2.1, p.2.2.1) b_1 k_1 h0u3 fun v_2 h0u4 =>
 mem h0u4 fun h0u5 =>
 loop (fun (s0 : Int × Bool × Sl × Sl × Sl) h0u6 (K0 : (Int × Bool × Sl × Sl × Sl) → Heap → Prop) =>
 iteB (decide (s0.1 < ((p.2.2.2.len : Nat) : Int))) (
 idxS p.2.2.2 s0.1 4 fun a =>
 loadS C_i64ubool_sl_sl 4 a h0u6 fun v_3 =>
 mem h0u6 fun h0u7 =>
 linear_Scale_c1 (v_3.2.1, v_3.2.2.1, v_3.2.2.2) b_1 k_1 h0u7 fun v_4 h0u8 =>
 new [Value.int .i64 v_3.1, Value.bool v_4.1, Sl.toV v_4.2.1, Sl.toV v_4.2.2] h0u8 fun a_1 h0u9 =>
 appendS 4 64 s0.2.2.2.2 (⟨some a_1, 1, 1⟩ : Sl) h0u9 fun v_6 h0u10 =>
 K0 (IntKind.wrap .i64 (s0.1 + 1), s0.2.1, s0.2.2.1, s0.2.2.2.1, v_6) h0u10
 ) (
 Lift.load Value.pointer b_1 h0u6 fun v_7 =>
 linear_kept v_7 (s0.2.1, s0.2.2.1, s0.2.2.2.1, s0.2.2.2.2) h0u6 fun v_8 h0u11 =>
 Q (v_8.1, v_8.2.1, v_8.2.2.1, v_8.2.2.2) h0u11
 )
 ) (0, v_2.1, v_2.2.1, v_2.2.2, Sl.nil) h0u5
 )
def ratio_Neg (x0 : Bool × Sl × Sl) (h : Heap) (Q : (Bool × Sl × Sl) → Heap → Prop) : Prop :=
 mem h fun h0 =>
 seq (fun (K0 : Bool → Heap → Prop) =>
 iteB (!x0.1) (
 Let (decide (((x0.2.1.len : Nat) : Int) > 0) : Bool) fun neg =>
 K0 neg h0
 ) (
 K0 false h0
 )
 ) (fun t0 h0u1 =>
 slices_Clone_api_Nat_uint32 x0.2.1 h0u1 fun v h0u2 =>
 slices_Clone_api_Nat_uint32 x0.2.2 h0u2 fun v_1 h0u3 =>
 Q (t0, v, v_1) h0u3
 )
def tableau_without (p : Bool × Sl × Sl × Sl) (v : Int) (h : Heap) (Q : (Bool × Sl × Sl × Sl) → Heap → Prop) : Prop :=
 mem h fun h0 =>
 mem h0 fun h0u1 =>
 loop (fun (s0 : Int × Bool × Sl × Sl × Sl) h0u2 (K0 : (Int × Bool × Sl × Sl × Sl) → Heap → Prop) =>
 iteB (decide (s0.1 < ((p.2.2.2.len : Nat) : Int))) (
 seq (fun (K0u1 : (Bool × Sl × Sl × Sl) → Heap → Prop) =>
 idxS p.2.2.2 s0.1 4 fun a =>
 loadS C_i64ubool_sl_sl 4 a h0u2 fun v_1 =>
 mem h0u2 fun h0u4 =>
 iteB (v_1.1 != v) (
 new [Value.int .i64 v_1.1, Value.bool v_1.2.1, Sl.toV v_1.2.2.1, Sl.toV v_1.2.2.2] h0u4 fun a_1 h0u5 =>
 appendS 4 64 s0.2.2.2.2 (⟨some a_1, 1, 1⟩ : Sl) h0u5 fun v_3 h0u6 =>
 K0u1 (s0.2.1, s0.2.2.1, s0.2.2.2.1, v_3) h0u6
 ) (
 K0u1 (s0.2.1, s0.2.2.1, s0.2.2.2.1, s0.2.2.2.2) h0u4
 )
 ) (fun t0 h0u3 =>
 K0 (IntKind.wrap .i64 (s0.1 + 1), t0.1, t0.2.1, t0.2.2.1, t0.2.2.2) h0u3
 )
 ) (
 Q (s0.2.1, s0.2.2.1, s0.2.2.2.1, s0.2.2.2.2) h0u2
 )
 ) (0, p.1, p.2.1, p.2.2.1, Sl.nil) h0u1
def ratio_over (x0 : Bool × Sl) (n : Sl) (h : Heap) (Q : (Bool × Sl) → Heap → Prop) : Prop :=
 mem h fun h0 =>
 ratio_free h0 fun v h0u1 =>
 nat_Bench_Mul v x0.2 n h0u1 fun v_1 h0u2 =>
 Q (x0.1, v_1) h0u2
def ratio_cross (x0 : Bool × Sl × Sl) (y : Bool × Sl × Sl) (h : Heap) (Q : ((Bool × Sl) × (Bool × Sl)) → Heap → Prop) : Prop :=
 mem h fun h0 =>
 ratio_den (y.1, y.2.1, y.2.2) h0 fun v h0u1 =>
 ratio_over (x0.1, x0.2.1) v h0u1 fun v_1 h0u2 =>
 ratio_den (x0.1, x0.2.1, x0.2.2) h0u2 fun v_2 h0u3 =>
 ratio_over (y.1, y.2.1) v_2 h0u3 fun v_3 h0u4 =>
 Q ((v_1.1, v_1.2), (v_3.1, v_3.2)) h0u4
def nat_Bench_Sub (b : (Option Addr)) (x0 : Sl) (y : Sl) (h : Heap) (Q : Sl → Heap → Prop) : Prop :=
 nat_Cmp x0 y h fun v h0 =>
 iteB (decide (v < 0)) (
 Q Sl.nil h0
 ) (
 nat_trim y h0 fun v_1 h0u1 =>
 nat_minus x0 v_1 h0u1 fun v_2 h0u2 =>
 nat_Bench_fit b v_2 h0u2 fun v_3 h0u3 =>
 Q v_3 h0u3
 )
def ratio_sum (x0 : Bool × Sl) (y : Bool × Sl) (h : Heap) (Q : (Bool × Sl) → Heap → Prop) : Prop :=
 mem h fun h0 =>
 ratio_free h0 fun v h0u1 =>
 iteB (x0.1 == y.1) (
 nat_Bench_Add v x0.2 y.2 h0u1 fun v_1 h0u2 =>
 Q (x0.1, v_1) h0u2
 ) (
 nat_Cmp x0.2 y.2 h0u1 fun v_2 h0u3 =>
 iteB (decide (v_2 ≥ 0)) (
 nat_Bench_Sub v x0.2 y.2 h0u3 fun v_3 h0u4 =>
 Q (x0.1, v_3) h0u4
 ) (
 nat_Bench_Sub v y.2 x0.2 h0u3 fun v_4 h0u5 =>
 Q (y.1, v_4) h0u5
 )
 )
def ratio_Add (b : (Option Addr)) (x0 : Bool × Sl × Sl) (y : Bool × Sl × Sl) (h : Heap) (Q : (Bool × Sl × Sl) → Heap → Prop) : Prop :=
 mem h fun h0 =>
 ratio_cross (x0.1, x0.2.1, x0.2.2) (y.1, y.2.1, y.2.2) h0 fun v h0u1 =>
 ratio_sum (v.1.1, v.1.2) (v.2.1, v.2.2) h0u1 fun v_1 h0u2 =>
 mem h0u2 fun h0u3 =>
 ratio_free h0u3 fun v_2 h0u4 =>
 ratio_den (x0.1, x0.2.1, x0.2.2) h0u4 fun v_3 h0u5 =>
 ratio_den (y.1, y.2.1, y.2.2) h0u5 fun v_4 h0u6 =>
 nat_Bench_Mul v_2 v_3 v_4 h0u6 fun v_5 h0u7 =>
 ratio_form v_1.1 v_1.2 v_5 h0u7 fun v_6 h0u8 =>
 ratio_fit b (v_6.1, v_6.2.1, v_6.2.2) h0u8 fun v_7 h0u9 =>
 Q (v_7.1, v_7.2.1, v_7.2.2) h0u9
def linear_Add (b : (Option Addr)) (p : Bool × Sl × Sl × Sl) (k : Bool × Sl × Sl) (q : Bool × Sl × Sl × Sl) (h : Heap) (Q : (Bool × Sl × Sl × Sl) → Heap → Prop) : Prop :=
 mem h fun h0 =>
 linear_Scale b (k.1, k.2.1, k.2.2) (q.1, q.2.1, q.2.2.1, q.2.2.2) h0 fun v h0u1 =>
 ratio_Add b (p.1, p.2.1, p.2.2.1) (v.1, v.2.1, v.2.2.1) h0u1 fun v_1 h0u2 =>
 mem h0u2 fun h0u3 =>
 loop (fun (s0 : Sl × Sl × Bool × Sl × Sl × Sl) h0u4 (K0 : (Sl × Sl × Bool × Sl × Sl × Sl) → Heap → Prop) =>
 seq (fun (K0u1 : Bool → Heap → Prop) =>
 iteB (decide (((s0.1.len : Nat) : Int) > 0)) (
 K0u1 true h0u4
 ) (
 K0u1 (decide (((s0.2.1.len : Nat) : Int) > 0)) h0u4
 )
 ) (fun t0 h0u5 =>
 iteB t0 (
 mem h0u5 fun h0u6 =>
 seq (fun (K0u2 : (Sl × Sl × Int × Bool × Sl × Sl) → Heap → Prop) =>
 seq (fun (K0u3 : Bool → Heap → Prop) =>
 iteB (((s0.2.1.len : Nat) : Int) == 0) (
 K0u3 true h0u6
 ) (
 iteB (decide (((s0.1.len : Nat) : Int) > 0)) (
 idxS s0.1 0 4 fun a =>
 Lift.load (Value.int .i64) (a.add 0) h0u6 fun v_2 =>
 idxS s0.2.1 0 4 fun a_1 =>
 Lift.load (Value.int .i64) (a_1.add 0) h0u6 fun v_3 =>
 K0u3 (decide (v_2 < v_3)) h0u6
 ) (
 K0u3 false h0u6
 )
 )
 ) (fun t0u2 h0u8 =>
 iteB t0u2 (
 idxS s0.1 0 4 fun a_2 =>
 loadS C_i64ubool_sl_sl 4 a_2 h0u8 fun v_4 =>
 sliceOf s0.1 (some 1) none none 4 fun v_5 =>
 K0u2 (v_5, s0.2.1, v_4.1, v_4.2.1, v_4.2.2.1, v_4.2.2.2) h0u8
 ) (
 seq (fun (K0u4 : Bool → Heap → Prop) =>
 iteB (((s0.1.len : Nat) : Int) == 0) (
 K0u4 true h0u8
 ) (
 idxS s0.1 0 4 fun a_3 =>
 Lift.load (Value.int .i64) (a_3.add 0) h0u8 fun v_6 =>
 idxS s0.2.1 0 4 fun a_4 =>
 Lift.load (Value.int .i64) (a_4.add 0) h0u8 fun v_7 =>
 K0u4 (decide (v_6 > v_7)) h0u8
 )
 ) (fun t0u3 h0u9 =>
 iteB t0u3 (
 idxS s0.2.1 0 4 fun a_5 =>
 loadS C_i64ubool_sl_sl 4 a_5 h0u9 fun v_8 =>
 sliceOf s0.2.1 (some 1) none none 4 fun v_9 =>
 K0u2 (s0.1, v_9, v_8.1, v_8.2.1, v_8.2.2.1, v_8.2.2.2) h0u9
 ) (
 idxS s0.1 0 4 fun a_6 =>
 Lift.load (Value.int .i64) (a_6.add 0) h0u9 fun v_10 =>
 idxS s0.1 0 4 fun a_7 =>
 loadS C_bool_sl_sl 3 (a_7.add 1) h0u9 fun v_11 =>
 idxS s0.2.1 0 4 fun a_8 =>
 loadS C_bool_sl_sl 3 (a_8.add 1) h0u9 fun v_12 =>
 ratio_Add b (v_11.1, v_11.2.1, v_11.2.2) (v_12.1, v_12.2.1, v_12.2.2) h0u9 fun v_13 h0u10 =>
 (cell? h0u10 (a_6.add 0) = some (Value.int .i64 v_10)) ∧
 sliceOf s0.1 (some 1) none none 4 fun v_14 =>
 sliceOf s0.2.1 (some 1) none none 4 fun v_15 =>
 K0u2 (v_14, v_15, v_10, v_13.1, v_13.2.1, v_13.2.2) h0u10
 )
 )
 )
 )
 ) (fun t0u1 h0u7 =>
 ratio_Sign (t0u1.2.2.2.1, t0u1.2.2.2.2.1, t0u1.2.2.2.2.2) h0u7 fun v_16 h0u11 =>
 iteB (v_16 != 0) (
 new [Value.int .i64 t0u1.2.2.1, Value.bool t0u1.2.2.2.1, Sl.toV t0u1.2.2.2.2.1, Sl.toV t0u1.2.2.2.2.2] h0u11 fun a_9 h0u12 =>
 appendS 4 64 s0.2.2.2.2.2 (⟨some a_9, 1, 1⟩ : Sl) h0u12 fun v_18 h0u13 =>
 K0 (t0u1.1, t0u1.2.1, s0.2.2.1, s0.2.2.2.1, s0.2.2.2.2.1, v_18) h0u13
 ) (
 K0 (t0u1.1, t0u1.2.1, s0.2.2.1, s0.2.2.2.1, s0.2.2.2.2.1, s0.2.2.2.2.2) h0u11
 )
 )
 ) (
 linear_kept b (s0.2.2.1, s0.2.2.2.1, s0.2.2.2.2.1, s0.2.2.2.2.2) h0u5 fun v_19 h0u14 =>
 Q (v_19.1, v_19.2.1, v_19.2.2.1, v_19.2.2.2) h0u14
 )
 )
 ) (p.2.2.2, v.2.2.2, v_1.1, v_1.2.1, v_1.2.2, Sl.nil) h0u3
def slices_Clone_int_int (s0 : Sl) (h : Heap) (Q : Sl → Heap → Prop) : Prop :=
 iteB s0.a.isNone (
 Q Sl.nil h
 ) (
 new [] h fun a h0 =>
 appendS 1 8 (⟨some a, 0, 0⟩ : Sl) s0 h0 fun v_1 h0u1 =>
 Q v_1 h0u1
 )
def tableau_over (b : (Option Addr)) (h : Heap) (Q : Int → Heap → Prop) : Prop :=
 nat_Bench_Over b h fun v h0 =>
 iteB v (
 Q 6 h0
 ) (
 Q 0 h0
 )
def tableau_Pivot (b : (Option Addr)) (t0 : (Option Addr)) (row : Int) (v : Int) (h : Heap) (Q : Int → Heap → Prop) : Prop :=
 seq (fun (K0 : Bool → Heap → Prop) =>
 iteB (decide (row < 0)) (
 K0 true h
 ) (
 nilChk t0 fun a =>
 Lift.load Sl.toV (a.add 1) h fun v_1 =>
 K0 (decide (row ≥ ((v_1.len : Nat) : Int))) h
 )
 ) (fun t0u1 h0 =>
 iteB t0u1 (
 Q 2 h0
 ) (
 nilChk t0 fun a_1 =>
 Lift.load Sl.toV (a_1.add 1) h0 fun v_2 =>
 idxS v_2 row 4 fun a_2 =>
 loadS C_bool_sl_sl_sl 4 a_2 h0 fun v_3 =>
 tableau_coef (v_3.1, v_3.2.1, v_3.2.2.1, v_3.2.2.2) v h0 fun v_4 h0u1 =>
 mem h0u1 fun h0u2 =>
 ratio_Sign (v_4.1, v_4.2.1, v_4.2.2) h0u2 fun v_5 h0u3 =>
 iteB (v_5 == 0) (
 Q 1 h0u3
 ) (
 nilChk t0 fun a_3 =>
 Lift.load Sl.toV (a_3.add 0) h0u3 fun v_6 =>
 idxS v_6 row 1 fun a_4 =>
 Lift.load (Value.int .i64) a_4 h0u3 fun v_7 =>
 seq (fun (K0u1 : (Bool × Sl × Sl) → Heap → Prop) =>
 mem h0u3 fun h0u5 =>
 ratio_Of 1 h0u5 fun v_11 h0u12 =>
 mem h0u12 fun h0u13 =>
 ratio_Div b (v_11.1, v_11.2.1, v_11.2.2) (v_4.1, v_4.2.1, v_4.2.2) h0u13 fun v_12 h0u14 =>
 mem h0u14 fun h0u15 =>
 K0u1 (v_12.1, v_12.2.1, v_12.2.2) h0u15
 ) (fun t0u2 h0u4 =>
 seq (fun (K0u2 : (Bool × Sl × Sl × Sl) → Heap → Prop) =>
 nilChk t0 fun a_5 =>
 Lift.load Sl.toV (a_5.add 1) h0u4 fun v_13 =>
 idxS v_13 row 4 fun a_6 =>
 loadS C_bool_sl_sl_sl 4 a_6 h0u4 fun v_14 =>
 mem h0u4 fun h0u17 =>
 linear_Of v_7 h0u17 fun v_30 h0u48 =>
 (cell? h0u48 (a_5.add 1) = some (Sl.toV v_13)) ∧
 (cells? h0u48 a_6 4 0 = some [Value.bool v_14.1, Sl.toV v_14.2.1, Sl.toV v_14.2.2.1, Sl.toV v_14.2.2.2]) ∧
 mem h0u48 fun h0u49 =>
 linear_Scale b (t0u2.1, t0u2.2.1, t0u2.2.2) (v_30.1, v_30.2.1, v_30.2.2.1, v_30.2.2.2) h0u49 fun v_31 h0u50 =>
 (cell? h0u50 (a_5.add 1) = some (Sl.toV v_13)) ∧
 (cells? h0u50 a_6 4 0 = some [Value.bool v_14.1, Sl.toV v_14.2.1, Sl.toV v_14.2.2.1, Sl.toV v_14.2.2.2]) ∧
 mem h0u50 fun h0u51 =>
 ratio_Neg (t0u2.1, t0u2.2.1, t0u2.2.2) h0u51 fun v_32 h0u52 =>
 (cell? h0u52 (a_5.add 1) = some (Sl.toV v_13)) ∧
 (cells? h0u52 a_6 4 0 = some [Value.bool v_14.1, Sl.toV v_14.2.1, Sl.toV v_14.2.2.1, Sl.toV v_14.2.2.2]) ∧
 mem h0u52 fun h0u53 =>
 tableau_without (v_14.1, v_14.2.1, v_14.2.2.1, v_14.2.2.2) v h0u53 fun v_33 h0u54 =>
 mem h0u54 fun h0u55 =>
 linear_Add b (v_31.1, v_31.2.1, v_31.2.2.1, v_31.2.2.2) (v_32.1, v_32.2.1, v_32.2.2) (v_33.1, v_33.2.1, v_33.2.2.1, v_33.2.2.2) h0u55 fun v_34 h0u56 =>
 mem h0u56 fun h0u57 =>
 K0u2 (v_34.1, v_34.2.1, v_34.2.2.1, v_34.2.2.2) h0u57
 ) (fun t0u3 h0u16 =>
 nilChk t0 fun a_7 =>
 Lift.load Sl.toV (a_7.add 1) h0u16 fun v_35 =>
 slices_Clone_api_Poly_api_Poly v_35 h0u16 fun v_36 h0u58 =>
 nilChk t0 fun a_8 =>
 Lift.load Sl.toV (a_8.add 1) h0u58 fun v_37 =>
 loop (fun (s0 : Int) h0u59 (K0u3 : Int → Heap → Prop) =>
 iteB (decide (s0 < ((v_37.len : Nat) : Int))) (
 seq (fun (K0u4 : Unit → Heap → Prop) =>
 idxS v_37 s0 4 fun a_9 =>
 loadS C_bool_sl_sl_sl 4 a_9 h0u59 fun v_38 =>
 mem h0u59 fun h0u61 =>
 tableau_coef (v_38.1, v_38.2.1, v_38.2.2.1, v_38.2.2.2) v h0u61 fun v_39 h0u62 =>
 mem h0u62 fun h0u63 =>
 ratio_Sign (v_39.1, v_39.2.1, v_39.2.2) h0u63 fun v_40 h0u64 =>
 iteB (v_40 != 0) (
 tableau_without (v_38.1, v_38.2.1, v_38.2.2.1, v_38.2.2.2) v h0u64 fun v_41 h0u65 =>
 linear_Add b (v_41.1, v_41.2.1, v_41.2.2.1, v_41.2.2.2) (v_39.1, v_39.2.1, v_39.2.2) (t0u3.1, t0u3.2.1, t0u3.2.2.1, t0u3.2.2.2) h0u65 fun v_42 h0u66 =>
 idxS v_36 s0 4 fun a_10 =>
 storeS a_10 [Value.bool v_42.1, Sl.toV v_42.2.1, Sl.toV v_42.2.2.1, Sl.toV v_42.2.2.2] h0u66 fun h0u67 =>
 K0u4 () h0u67
 ) (
 K0u4 () h0u64
 )
 ) (fun t0u4 h0u60 =>
 K0u3 (IntKind.wrap .i64 (s0 + 1)) h0u60
 )
 ) (
 idxS v_36 row 4 fun a_11 =>
 storeS a_11 [Value.bool t0u3.1, Sl.toV t0u3.2.1, Sl.toV t0u3.2.2.1, Sl.toV t0u3.2.2.2] h0u59 fun h0u68 =>
 nilChk t0 fun a_12 =>
 Lift.load Sl.toV (a_12.add 0) h0u68 fun v_43 =>
 slices_Clone_int_int v_43 h0u68 fun v_44 h0u69 =>
 nilChk t0 fun a_13 =>
 Lift.store (a_13.add 1) (Sl.toV v_36) h0u69 fun h0u70 =>
 nilChk t0 fun a_14 =>
 Lift.store (a_14.add 0) (Sl.toV v_44) h0u70 fun h0u71 =>
 nilChk t0 fun a_15 =>
 Lift.load Sl.toV (a_15.add 0) h0u71 fun v_45 =>
 idxS v_45 row 1 fun a_16 =>
 Lift.store a_16 (Value.int .i64 v) h0u71 fun h0u72 =>
 tableau_over b h0u72 fun v_46 h0u73 =>
 Q v_46 h0u73
 )
 ) 0 h0u58
 )
 )
 )
 )
 )
def slices_Reverse_byte_byte (s0 : Sl) (h : Heap) (Q : Unit → Heap → Prop) : Prop :=
 Let (IntKind.wrap .i64 (((s0.len : Nat) : Int) - 1) : Int) fun j =>
 loop (fun (s0u1 : Int × Int) h0 (K0 : (Int × Int) → Heap → Prop) =>
 iteB (decide (s0u1.1 < s0u1.2)) (
 idxS s0 s0u1.2 1 fun a =>
 Lift.load (Value.int .u8) a h0 fun v =>
 idxS s0 s0u1.1 1 fun a_1 =>
 Lift.load (Value.int .u8) a_1 h0 fun v_1 =>
 idxS s0 s0u1.1 1 fun a_2 =>
 Lift.store a_2 (Value.int .u8 v) h0 fun h0u1 =>
 idxS s0 s0u1.2 1 fun a_3 =>
 Lift.store a_3 (Value.int .u8 v_1) h0u1 fun h0u2 =>
 Let (IntKind.wrap .i64 (s0u1.1 + 1) : Int) fun i =>
 Let (IntKind.wrap .i64 (s0u1.2 - 1) : Int) fun j_1 =>
 K0 (i, j_1) h0u2
 ) (
 Q () h0
 )
 ) (0, j) h
def nat_Text (x0 : Sl) (h : Heap) (Q : ByteArray → Heap → Prop) : Prop :=
 nat_trim x0 h fun v h0 =>
 loop (fun (s0 : Sl × Sl) h0u1 (K0 : (Sl × Sl) → Heap → Prop) =>
 iteB (decide (((s0.1.len : Nat) : Int) > 0)) (
 new [Value.int .u32 1000000000] h0u1 fun a h0u2 =>
 nat_divide s0.1 (⟨some a, 1, 1⟩ : Sl) h0u2 fun v_2 h0u3 =>
 nat_small v_2.2 h0u3 fun v_3 h0u4 =>
 loop (fun (s0u1 : Sl × Int × Int) h0u5 (K0u1 : (Sl × Int × Int) → Heap → Prop) =>
 seq (fun (K0u2 : Bool → Heap → Prop) =>
 iteB (decide (s0u1.2.2 < 9)) (
 iteB (decide (((v_2.1.len : Nat) : Int) > 0)) (
 K0u2 true h0u5
 ) (
 K0u2 (decide (s0u1.2.1 > 0)) h0u5
 )
 ) (
 K0u2 false h0u5
 )
 ) (fun t0 h0u6 =>
 iteB t0 (
 new [Value.int .u8 (IntKind.wrap .u8 (IntKind.wrap .u64 (48 + (Int.tmod s0u1.2.1 10))))] h0u6 fun a_1 h0u7 =>
 appendS 1 1 s0u1.1 (⟨some a_1, 1, 1⟩ : Sl) h0u7 fun v_5 h0u8 =>
 Let (IntKind.wrap .u64 (Int.tdiv s0u1.2.1 10) : Int) fun part =>
 Let (IntKind.wrap .i64 (s0u1.2.2 + 1) : Int) fun i =>
 K0u1 (v_5, part, i) h0u8
 ) (
 K0 (v_2.1, s0u1.1) h0u6
 )
 )
 ) (s0.2, v_3.1, 0) h0u4
 ) (
 iteB (((s0.2.len : Nat) : Int) == 0) (
 Q (ByteArray.mk #[48]) h0u1
 ) (
 slices_Reverse_byte_byte s0.2 h0u1 fun v_6 h0u9 =>
 strOf s0.2 h0u9 fun v_7 =>
 Q v_7 h0u9
 )
 )
 ) (v, Sl.nil) h0
def ratio_Text (x0 : Bool × Sl × Sl) (h : Heap) (Q : ByteArray → Heap → Prop) : Prop :=
 mem h fun h0 =>
 nat_Text x0.2.1 h0 fun v h0u1 =>
 seq (fun (K0 : ByteArray → Heap → Prop) =>
 iteB x0.1 (
 (((ByteArray.mk #[45]).size + v.size : Nat) : Int) ≤ 9223372036854775807 ∧
 Let (((ByteArray.mk #[45]) ++ v) : ByteArray) fun s0 =>
 K0 s0 h0u1
 ) (
 K0 v h0u1
 )
 ) (fun t0 h0u2 =>
 seq (fun (K0u1 : ByteArray → Heap → Prop) =>
 iteB (decide (((x0.2.2.len : Nat) : Int) > 0)) (
 nat_Text x0.2.2 h0u2 fun v_1 h0u4 =>
 (((ByteArray.mk #[47]).size + v_1.size : Nat) : Int) ≤ 9223372036854775807 ∧
 ((t0.size + ((ByteArray.mk #[47]) ++ v_1).size : Nat) : Int) ≤ 9223372036854775807 ∧
 Let ((t0 ++ ((ByteArray.mk #[47]) ++ v_1)) : ByteArray) fun s0u1 =>
 K0u1 s0u1 h0u4
 ) (
 K0u1 t0 h0u2
 )
 ) (fun t0u1 h0u3 =>
 Q t0u1 h0u3
 )
 )
def law14uspeaks (h : Heap) (Q : Bool → Heap → Prop) : Prop :=
 law14uone h fun v h0 =>
 tableau_New (v.1, v.2.1, v.2.2.1, v.2.2.2.1, v.2.2.2.2.1, v.2.2.2.2.2.1, v.2.2.2.2.2.2) h0 fun v_1 h0u1 =>
 new [Sl.toV Sl.nil, Sl.toV Sl.nil, Sl.toV Sl.nil, Sl.toV Sl.nil, Sl.toV Sl.nil] h0u1 fun t0 h0u2 =>
 storeS t0 [Sl.toV v_1.1, Sl.toV v_1.2.1, Sl.toV v_1.2.2.1, Sl.toV v_1.2.2.2.1, Sl.toV v_1.2.2.2.2] h0u2 fun h0u3 =>
 nat_New 4 h0u3 fun v_2 h0u4 =>
 tableau_Pivot v_2 (some t0) 0 0 h0u4 fun v_3 h0u5 =>
 seq (fun (K0 : Bool → Heap → Prop) =>
 iteB (v_3 == 0) (
 Lift.load Sl.toV (t0.add 1) h0u5 fun v_4 =>
 iteB (((v_4.len : Nat) : Int) == 1) (
 Lift.load Sl.toV (t0.add 1) h0u5 fun v_5 =>
 idxS v_5 0 4 fun a =>
 Lift.load Sl.toV (a.add 3) h0u5 fun v_6 =>
 iteB (((v_6.len : Nat) : Int) == 2) (
 Lift.load Sl.toV (t0.add 1) h0u5 fun v_7 =>
 idxS v_7 0 4 fun a_1 =>
 Lift.load Sl.toV (a_1.add 3) h0u5 fun v_8 =>
 idxS v_8 0 4 fun a_2 =>
 loadS C_bool_sl_sl 3 (a_2.add 1) h0u5 fun v_9 =>
 ratio_Text (v_9.1, v_9.2.1, v_9.2.2) h0u5 fun v_10 h0u7 =>
 iteB (v_10.toList == (ByteArray.mk #[45, 49]).toList) (
 Lift.load Sl.toV (t0.add 0) h0u7 fun v_11 =>
 idxS v_11 0 1 fun a_3 =>
 Lift.load (Value.int .i64) a_3 h0u7 fun v_12 =>
 K0 (v_12 == 0) h0u7
 ) (
 K0 false h0u7
 )
 ) (
 K0 false h0u5
 )
 ) (
 K0 false h0u5
 )
 ) (
 K0 false h0u5
 )
 ) (fun t0u1 h0u6 =>
 Q t0u1 h0u6
 )
def law02uGreat (l : Sl) (h : Heap) (Q : Bool → Heap → Prop) : Prop :=
 loop (fun (s0 : Int) h0 (K0 : Int → Heap → Prop) =>
 iteB (decide (s0 < ((l.len : Nat) : Int))) (
 idxS l s0 3 fun a =>
 loadS C_bool_sl_sl 3 a h0 fun v =>
 mem h0 fun h0u1 =>
 seq (fun (K0u1 : Bool → Heap → Prop) =>
 iteB (decide (((v.2.1.len : Nat) : Int) > 6)) (
 K0u1 true h0u1
 ) (
 K0u1 (decide (((v.2.2.len : Nat) : Int) > 6)) h0u1
 )
 ) (fun t0 h0u2 =>
 iteB t0 (
 Q true h0u2
 ) (
 K0 (IntKind.wrap .i64 (s0 + 1)) h0u2
 )
 )
 ) (
 Q false h0
 )
 ) 0 h
def ref01uCut (x0 : Sl) (h : Heap) (Q : Sl → Heap → Prop) : Prop :=
 Let (((x0.len : Nat) : Int) : Int) fun n =>
 loop (fun (s0 : Int) h0 (K0 : Int → Heap → Prop) =>
 seq (fun (K0u1 : Bool → Heap → Prop) =>
 iteB (decide (s0 > 0)) (
 idxS x0 (IntKind.wrap .i64 (s0 - 1)) 1 fun a =>
 Lift.load (Value.int .i64) a h0 fun v =>
 K0u1 (v == 0) h0
 ) (
 K0u1 false h0
 )
 ) (fun t0 h0u1 =>
 iteB t0 (
 Let (IntKind.wrap .i64 (s0 - 1) : Int) fun n_1 =>
 K0 n_1 h0u1
 ) (
 sliceOf x0 none (some s0) none 1 fun v_1 =>
 Q v_1 h0u1
 )
 )
 ) n h
def ref01uOf (x0 : Sl) (h : Heap) (Q : Sl → Heap → Prop) : Prop :=
 new [] h fun a h0 =>
 Let ((⟨some a, 0, 0⟩ : Sl) : Sl) fun out =>
 Let (IntKind.wrap .i64 (((x0.len : Nat) : Int) - 1) : Int) fun i =>
 loop (fun (s0 : Sl × Int) h0u1 (K0 : (Sl × Int) → Heap → Prop) =>
 iteB (decide (s0.2 ≥ 0)) (
 idxS x0 s0.2 1 fun a_1 =>
 Lift.load (Value.int .u32) a_1 h0u1 fun v_1 =>
 Let (IntKind.wrap .i64 v_1 : Int) fun carry =>
 loop (fun (s0u1 : Int × Int) h0u2 (K0u1 : (Int × Int) → Heap → Prop) =>
 iteB (decide (s0u1.2 < ((s0.1.len : Nat) : Int))) (
 idxS s0.1 s0u1.2 1 fun a_2 =>
 Lift.load (Value.int .i64) a_2 h0u2 fun v_2 =>
 Let (IntKind.wrap .i64 ((IntKind.wrap .i64 (v_2 * 4294967296)) + s0u1.1) : Int) fun n =>
 idxS s0.1 s0u1.2 1 fun a_3 =>
 Lift.store a_3 (Value.int .i64 (Int.tmod n 10)) h0u2 fun h0u3 =>
 Let (IntKind.wrap .i64 (Int.tdiv n 10) : Int) fun carry_1 =>
 Let (IntKind.wrap .i64 (s0u1.2 + 1) : Int) fun k =>
 K0u1 (carry_1, k) h0u3
 ) (
 loop (fun (s0u2 : Sl × Int) h0u4 (K0u2 : (Sl × Int) → Heap → Prop) =>
 iteB (decide (s0u2.2 > 0)) (
 new [Value.int .i64 (Int.tmod s0u2.2 10)] h0u4 fun a_4 h0u5 =>
 appendS 1 8 s0u2.1 (⟨some a_4, 1, 1⟩ : Sl) h0u5 fun v_4 h0u6 =>
 Let (IntKind.wrap .i64 (Int.tdiv s0u2.2 10) : Int) fun carry_2 =>
 K0u2 (v_4, carry_2) h0u6
 ) (
 Let (IntKind.wrap .i64 (s0.2 - 1) : Int) fun i_1 =>
 K0 (s0u2.1, i_1) h0u4
 )
 ) (s0.1, s0u1.1) h0u2
 )
 ) (carry, 0) h0u1
 ) (
 ref01uCut s0.1 h0u1 fun v_5 h0u7 =>
 Q v_5 h0u7
 )
 ) (out, i) h0
def ref02uOf (x0 : Bool × Sl × Sl) (h : Heap) (Q : (Bool × Sl × Sl) → Heap → Prop) : Prop :=
 mem h fun h0 =>
 seq (fun (K0 : (Bool × Sl × Sl) → Heap → Prop) =>
 mem h0 fun h0u2 =>
 ref01uOf x0.2.1 h0u2 fun v_3 h0u9 =>
 mem h0u9 fun h0u10 =>
 ref01uOf x0.2.2 h0u10 fun v_4 h0u11 =>
 mem h0u11 fun h0u12 =>
 K0 (x0.1, v_3, v_4) h0u12
 ) (fun t0 h0u1 =>
 seq (fun (K0u1 : (Bool × Sl × Sl) → Heap → Prop) =>
 iteB (((t0.2.2.len : Nat) : Int) == 0) (
 new [Value.int .i64 1] h0u1 fun a h0u14 =>
 K0u1 (t0.1, t0.2.1, (⟨some a, 1, 1⟩ : Sl)) h0u14
 ) (
 K0u1 (t0.1, t0.2.1, t0.2.2) h0u1
 )
 ) (fun t0u1 h0u13 =>
 Q (t0u1.1, t0u1.2.1, t0u1.2.2) h0u13
 )
 )
def ref02uInt (n : Int) (h : Heap) (Q : (Bool × Sl × Sl) → Heap → Prop) : Prop :=
 mem h fun h0 =>
 new [] h0 fun a h0u1 =>
 new [Value.int .i64 1] h0u1 fun a_1 h0u2 =>
 mem h0u2 fun h0u3 =>
 seq (fun (K0 : Int → Heap → Prop) =>
 iteB (decide (n < 0)) (
 Let (IntKind.wrap .i64 (0 - n) : Int) fun n_1 =>
 K0 n_1 h0u3
 ) (
 K0 n h0u3
 )
 ) (fun t0 h0u4 =>
 loop (fun (s0 : Int × Bool × Sl × Sl) h0u5 (K0u1 : (Int × Bool × Sl × Sl) → Heap → Prop) =>
 iteB (decide (s0.1 > 0)) (
 new [Value.int .i64 (Int.tmod s0.1 10)] h0u5 fun a_2 h0u6 =>
 appendS 1 8 s0.2.2.1 (⟨some a_2, 1, 1⟩ : Sl) h0u6 fun v_3 h0u7 =>
 Let (IntKind.wrap .i64 (Int.tdiv s0.1 10) : Int) fun n_2 =>
 K0u1 (n_2, s0.2.1, v_3, s0.2.2.2) h0u7
 ) (
 Q (s0.2.1, s0.2.2.1, s0.2.2.2) h0u5
 )
 ) (t0, decide (n < 0), (⟨some a, 0, 0⟩ : Sl), (⟨some a_1, 1, 1⟩ : Sl)) h0u4
 )
def ref01uCmp (x0 : Sl) (y : Sl) (h : Heap) (Q : Int → Heap → Prop) : Prop :=
 iteB (((x0.len : Nat) : Int) != ((y.len : Nat) : Int)) (
 iteB (decide (((x0.len : Nat) : Int) < ((y.len : Nat) : Int))) (
 Q (-1) h
 ) (
 Q 1 h
 )
 ) (
 Let (IntKind.wrap .i64 (((x0.len : Nat) : Int) - 1) : Int) fun i =>
 loop (fun (s0 : Int) h0 (K0 : Int → Heap → Prop) =>
 iteB (decide (s0 ≥ 0)) (
 idxS x0 s0 1 fun a =>
 Lift.load (Value.int .i64) a h0 fun v =>
 idxS y s0 1 fun a_1 =>
 Lift.load (Value.int .i64) a_1 h0 fun v_1 =>
 iteB (decide (v < v_1)) (
 Q (-1) h0
 ) (
 idxS x0 s0 1 fun a_2 =>
 Lift.load (Value.int .i64) a_2 h0 fun v_2 =>
 idxS y s0 1 fun a_3 =>
 Lift.load (Value.int .i64) a_3 h0 fun v_3 =>
 iteB (decide (v_2 > v_3)) (
 Q 1 h0
 ) (
 Let (IntKind.wrap .i64 (s0 - 1) : Int) fun i_1 =>
 K0 i_1 h0
 )
 )
 ) (
 Q 0 h0
 )
 ) i h
 )
def ref01uSub (x0 : Sl) (y : Sl) (h : Heap) (Q : Sl → Heap → Prop) : Prop :=
 ref01uCmp x0 y h fun v h0 =>
 iteB (decide (v < 0)) (
 new [] h0 fun a h0u1 =>
 Q (⟨some a, 0, 0⟩ : Sl) h0u1
 ) (
 new [] h0 fun a_1 h0u2 =>
 Let ((⟨some a_1, 0, 0⟩ : Sl) : Sl) fun out =>
 loop (fun (s0 : Sl × Int × Int) h0u3 (K0 : (Sl × Int × Int) → Heap → Prop) =>
 iteB (decide (s0.2.2 < ((x0.len : Nat) : Int))) (
 idxS x0 s0.2.2 1 fun a_2 =>
 Lift.load (Value.int .i64) a_2 h0u3 fun v_3 =>
 Let (IntKind.wrap .i64 (v_3 - s0.2.1) : Int) fun n =>
 seq (fun (K0u1 : Int → Heap → Prop) =>
 iteB (decide (s0.2.2 < ((y.len : Nat) : Int))) (
 idxS y s0.2.2 1 fun a_3 =>
 Lift.load (Value.int .i64) a_3 h0u3 fun v_4 =>
 Let (IntKind.wrap .i64 (n - v_4) : Int) fun n_1 =>
 K0u1 n_1 h0u3
 ) (
 K0u1 n h0u3
 )
 ) (fun t0 h0u4 =>
 seq (fun (K0u2 : (Int × Int) → Heap → Prop) =>
 iteB (decide (t0 < 0)) (
 Let (IntKind.wrap .i64 (t0 + 10) : Int) fun n_2 =>
 K0u2 (1, n_2) h0u4
 ) (
 K0u2 (0, t0) h0u4
 )
 ) (fun t0u1 h0u5 =>
 new [Value.int .i64 t0u1.2] h0u5 fun a_4 h0u6 =>
 appendS 1 8 s0.1 (⟨some a_4, 1, 1⟩ : Sl) h0u6 fun v_6 h0u7 =>
 Let (IntKind.wrap .i64 (s0.2.2 + 1) : Int) fun i =>
 K0 (v_6, t0u1.1, i) h0u7
 )
 )
 ) (
 ref01uCut s0.1 h0u3 fun v_7 h0u8 =>
 Q v_7 h0u8
 )
 ) (out, 0, 0) h0u2
 )
def ref01uDiv (x0 : Sl) (y : Sl) (h : Heap) (Q : (Sl × Sl) → Heap → Prop) : Prop :=
 iteB (((y.len : Nat) : Int) == 0) (
 new [] h fun a h0 =>
 new [] h0 fun a_1 h0u1 =>
 Q ((⟨some a, 0, 0⟩ : Sl), (⟨some a_1, 0, 0⟩ : Sl)) h0u1
 ) (
 Let (((x0.len : Nat) : Int) : Int) fun t15 =>
 mkS [Value.int .i64 0] 8 t15 t15 h fun v_2 h0u2 =>
 new [] h0u2 fun a_2 h0u3 =>
 Let ((⟨some a_2, 0, 0⟩ : Sl) : Sl) fun r =>
 Let (IntKind.wrap .i64 (((x0.len : Nat) : Int) - 1) : Int) fun i =>
 loop (fun (s0 : Sl × Int) h0u4 (K0 : (Sl × Int) → Heap → Prop) =>
 iteB (decide (s0.2 ≥ 0)) (
 idxS x0 s0.2 1 fun a_3 =>
 Lift.load (Value.int .i64) a_3 h0u4 fun v_4 =>
 new [Value.int .i64 v_4] h0u4 fun a_4 h0u5 =>
 appendS 1 8 (⟨some a_4, 1, 1⟩ : Sl) s0.1 h0u5 fun v_6 h0u6 =>
 ref01uCut v_6 h0u6 fun v_7 h0u7 =>
 loop (fun (s0u1 : Sl) h0u8 (K0u1 : Sl → Heap → Prop) =>
 ref01uCmp s0u1 y h0u8 fun v_8 h0u9 =>
 iteB (decide (v_8 ≥ 0)) (
 ref01uSub s0u1 y h0u9 fun v_9 h0u10 =>
 idxS v_2 s0.2 1 fun a_5 =>
 Lift.load (Value.int .i64) a_5 h0u10 fun v_10 =>
 idxS v_2 s0.2 1 fun a_6 =>
 Lift.store a_6 (Value.int .i64 (IntKind.wrap .i64 (v_10 + 1))) h0u10 fun h0u11 =>
 K0u1 v_9 h0u11
 ) (
 Let (IntKind.wrap .i64 (s0.2 - 1) : Int) fun i_1 =>
 K0 (s0u1, i_1) h0u9
 )
 ) v_7 h0u7
 ) (
 ref01uCut v_2 h0u4 fun v_11 h0u12 =>
 Q (v_11, s0.1) h0u12
 )
 ) (r, i) h0u3
 )
def ref01uGcd (x0 : Sl) (y : Sl) (h : Heap) (Q : Sl → Heap → Prop) : Prop :=
 loop (fun (s0 : Sl × Sl) h0 (K0 : (Sl × Sl) → Heap → Prop) =>
 iteB (decide (((s0.2.len : Nat) : Int) > 0)) (
 ref01uDiv s0.1 s0.2 h0 fun v h0u1 =>
 K0 (s0.2, v.2) h0u1
 ) (
 Q s0.1 h0
 )
 ) (x0, y) h
def ref02uLow (r : Bool × Sl × Sl) (h : Heap) (Q : (Bool × Sl × Sl) → Heap → Prop) : Prop :=
 mem h fun h0 =>
 iteB (((r.2.1.len : Nat) : Int) == 0) (
 ref02uInt 0 h0 fun v h0u1 =>
 Q (v.1, v.2.1, v.2.2) h0u1
 ) (
 ref01uGcd r.2.1 r.2.2 h0 fun v_1 h0u2 =>
 ref01uDiv r.2.1 v_1 h0u2 fun v_2 h0u3 =>
 ref01uDiv r.2.2 v_1 h0u3 fun v_3 h0u4 =>
 Q (r.1, v_2.1, v_3.1) h0u4
 )
def ref01uLimbs (x0 : Sl) (h : Heap) (Q : Sl → Heap → Prop) : Prop :=
 new [] h fun a h0 =>
 Let ((⟨some a, 0, 0⟩ : Sl) : Sl) fun out =>
 Let (IntKind.wrap .i64 (((x0.len : Nat) : Int) - 1) : Int) fun i =>
 loop (fun (s0 : Sl × Int) h0u1 (K0 : (Sl × Int) → Heap → Prop) =>
 iteB (decide (s0.2 ≥ 0)) (
 seq (fun (K0u1 : Sl → Heap → Prop) =>
 idxS x0 s0.2 1 fun a_1 =>
 Lift.load (Value.int .i64) a_1 h0u1 fun v_1 =>
 Let (IntKind.wrap .u64 v_1 : Int) fun carry =>
 loop (fun (s0u1 : Int × Int) h0u3 (K0u2 : (Int × Int) → Heap → Prop) =>
 iteB (decide (s0u1.2 < ((s0.1.len : Nat) : Int))) (
 idxS s0.1 s0u1.2 1 fun a_2 =>
 Lift.load (Value.int .u32) a_2 h0u3 fun v_2 =>
 Let (IntKind.wrap .u64 ((IntKind.wrap .u64 ((IntKind.wrap .u64 v_2) * 10)) + s0u1.1) : Int) fun n =>
 idxS s0.1 s0u1.2 1 fun a_3 =>
 Lift.store a_3 (Value.int .u32 (IntKind.wrap .u32 (Int.tmod n 4294967296))) h0u3 fun h0u4 =>
 Let (IntKind.wrap .u64 (Int.tdiv n 4294967296) : Int) fun carry_1 =>
 Let (IntKind.wrap .i64 (s0u1.2 + 1) : Int) fun k =>
 K0u2 (carry_1, k) h0u4
 ) (
 iteB (decide (s0u1.1 > 0)) (
 new [Value.int .u32 (IntKind.wrap .u32 s0u1.1)] h0u3 fun a_4 h0u5 =>
 appendS 1 4 s0.1 (⟨some a_4, 1, 1⟩ : Sl) h0u5 fun v_4 h0u6 =>
 K0u1 v_4 h0u6
 ) (
 K0u1 s0.1 h0u3
 )
 )
 ) (carry, 0) h0u1
 ) (fun t0 h0u2 =>
 Let (IntKind.wrap .i64 (s0.2 - 1) : Int) fun i_1 =>
 K0 (t0, i_1) h0u2
 )
 ) (
 Q s0.1 h0u1
 )
 ) (out, i) h0
def ref02uForm (r : Bool × Sl × Sl) (h : Heap) (Q : (Bool × Sl × Sl) → Heap → Prop) : Prop :=
 mem h fun h0 =>
 ref02uLow (r.1, r.2.1, r.2.2) h0 fun v h0u1 =>
 seq (fun (K0 : (Bool × Sl × Sl) → Heap → Prop) =>
 mem h0u1 fun h0u3 =>
 ref01uLimbs v.2.1 h0u3 fun v_2 h0u6 =>
 mem h0u6 fun h0u7 =>
 K0 (v.1, v_2, Sl.nil) h0u7
 ) (fun t0 h0u2 =>
 seq (fun (K0u1 : (Bool × Sl × Sl) → Heap → Prop) =>
 seq (fun (K0u2 : Bool → Heap → Prop) =>
 iteB (((v.2.2.len : Nat) : Int) != 1) (
 K0u2 true h0u2
 ) (
 idxS v.2.2 0 1 fun a =>
 Lift.load (Value.int .i64) a h0u2 fun v_3 =>
 K0u2 (v_3 != 1) h0u2
 )
 ) (fun t0u2 h0u9 =>
 iteB t0u2 (
 ref01uLimbs v.2.2 h0u9 fun v_4 h0u10 =>
 K0u1 (t0.1, t0.2.1, v_4) h0u10
 ) (
 K0u1 (t0.1, t0.2.1, t0.2.2) h0u9
 )
 )
 ) (fun t0u1 h0u8 =>
 Q (t0u1.1, t0u1.2.1, t0u1.2.2) h0u8
 )
 )
def ref01uSame (a : Sl) (b : Sl) (h : Heap) (Q : Bool → Heap → Prop) : Prop :=
 iteB (((a.len : Nat) : Int) != ((b.len : Nat) : Int)) (
 Q false h
 ) (
 loop (fun (s0 : Int) h0 (K0 : Int → Heap → Prop) =>
 iteB (decide (s0 < ((a.len : Nat) : Int))) (
 idxS a s0 1 fun a_1 =>
 Lift.load (Value.int .u32) a_1 h0 fun v =>
 idxS b s0 1 fun a_2 =>
 Lift.load (Value.int .u32) a_2 h0 fun v_1 =>
 iteB (v != v_1) (
 Q false h0
 ) (
 Let (IntKind.wrap .i64 (s0 + 1) : Int) fun i =>
 K0 i h0
 )
 ) (
 Q true h0
 )
 ) 0 h
 )
def ref02uSame (x0 : Bool × Sl × Sl) (y : Bool × Sl × Sl) (h : Heap) (Q : Bool → Heap → Prop) : Prop :=
 mem h fun h0 =>
 seq (fun (K0 : Bool → Heap → Prop) =>
 iteB (x0.1 == y.1) (
 ref01uSame x0.2.1 y.2.1 h0 fun v h0u2 =>
 iteB v (
 ref01uSame x0.2.2 y.2.2 h0u2 fun v_1 h0u3 =>
 K0 v_1 h0u3
 ) (
 K0 false h0u2
 )
 ) (
 K0 false h0
 )
 ) (fun t0 h0u1 =>
 Q t0 h0u1
 )
def ref02uRight (x0 : Bool × Sl × Sl) (h : Heap) (Q : Bool → Heap → Prop) : Prop :=
 mem h fun h0 =>
 seq (fun (K0 : Bool → Heap → Prop) =>
 iteB (decide (((x0.2.1.len : Nat) : Int) > 0)) (
 idxS x0.2.1 (IntKind.wrap .i64 (((x0.2.1.len : Nat) : Int) - 1)) 1 fun a =>
 Lift.load (Value.int .u32) a h0 fun v =>
 iteB (v == 0) (
 K0 true h0
 ) (
 iteB (decide (((x0.2.2.len : Nat) : Int) > 0)) (
 idxS x0.2.2 (IntKind.wrap .i64 (((x0.2.2.len : Nat) : Int) - 1)) 1 fun a_1 =>
 Lift.load (Value.int .u32) a_1 h0 fun v_1 =>
 iteB (v_1 == 0) (
 K0 true h0
 ) (
 iteB (((x0.2.1.len : Nat) : Int) == 0) (
 K0 x0.1 h0
 ) (
 K0 false h0
 )
 )
 ) (
 iteB (((x0.2.1.len : Nat) : Int) == 0) (
 K0 x0.1 h0
 ) (
 K0 false h0
 )
 )
 )
 ) (
 iteB (decide (((x0.2.2.len : Nat) : Int) > 0)) (
 idxS x0.2.2 (IntKind.wrap .i64 (((x0.2.2.len : Nat) : Int) - 1)) 1 fun a_2 =>
 Lift.load (Value.int .u32) a_2 h0 fun v_2 =>
 iteB (v_2 == 0) (
 K0 true h0
 ) (
 iteB (((x0.2.1.len : Nat) : Int) == 0) (
 K0 x0.1 h0
 ) (
 K0 false h0
 )
 )
 ) (
 iteB (((x0.2.1.len : Nat) : Int) == 0) (
 K0 x0.1 h0
 ) (
 K0 false h0
 )
 )
 )
 ) (fun t0 h0u1 =>
 iteB t0 (
 Q false h0u1
 ) (
 ref02uOf (x0.1, x0.2.1, x0.2.2) h0u1 fun v_3 h0u2 =>
 ref02uForm (v_3.1, v_3.2.1, v_3.2.2) h0u2 fun v_4 h0u3 =>
 ref02uSame (x0.1, x0.2.1, x0.2.2) (v_4.1, v_4.2.1, v_4.2.2) h0u3 fun v_5 h0u4 =>
 Q v_5 h0u4
 )
 )
def ref12uRight (p : Bool × Sl × Sl × Sl) (h : Heap) (Q : Bool → Heap → Prop) : Prop :=
 mem h fun h0 =>
 ref02uRight (p.1, p.2.1, p.2.2.1) h0 fun v h0u1 =>
 iteB (!v) (
 Q false h0u1
 ) (
 loop (fun (s0 : Int) h0u2 (K0 : Int → Heap → Prop) =>
 iteB (decide (s0 < ((p.2.2.2.len : Nat) : Int))) (
 idxS p.2.2.2 s0 4 fun a =>
 loadS C_i64ubool_sl_sl 4 a h0u2 fun v_1 =>
 mem h0u2 fun h0u3 =>
 seq (fun (K0u1 : Bool → Heap → Prop) =>
 iteB (decide (v_1.1 < 0)) (
 K0u1 true h0u3
 ) (
 iteB (decide (s0 > 0)) (
 idxS p.2.2.2 (IntKind.wrap .i64 (s0 - 1)) 4 fun a_1 =>
 Lift.load (Value.int .i64) (a_1.add 0) h0u3 fun v_2 =>
 iteB (decide (v_1.1 ≤ v_2)) (
 K0u1 true h0u3
 ) (
 ref02uRight (v_1.2.1, v_1.2.2.1, v_1.2.2.2) h0u3 fun v_3 h0u5 =>
 iteB (!v_3) (
 K0u1 true h0u5
 ) (
 K0u1 (((v_1.2.2.1.len : Nat) : Int) == 0) h0u5
 )
 )
 ) (
 ref02uRight (v_1.2.1, v_1.2.2.1, v_1.2.2.2) h0u3 fun v_4 h0u6 =>
 iteB (!v_4) (
 K0u1 true h0u6
 ) (
 K0u1 (((v_1.2.2.1.len : Nat) : Int) == 0) h0u6
 )
 )
 )
 ) (fun t0 h0u4 =>
 iteB t0 (
 Q false h0u4
 ) (
 Let (IntKind.wrap .i64 (s0 + 1) : Int) fun i =>
 K0 i h0u4
 )
 )
 ) (
 Q true h0u2
 )
 ) 0 h0u1
 )
def law12uOdd (l : Sl) (h : Heap) (Q : Bool → Heap → Prop) : Prop :=
 loop (fun (s0 : Int) h0 (K0 : Int → Heap → Prop) =>
 iteB (decide (s0 < ((l.len : Nat) : Int))) (
 idxS l s0 4 fun a =>
 loadS C_bool_sl_sl_sl 4 a h0 fun v =>
 mem h0 fun h0u1 =>
 seq (fun (K0u1 : Bool → Heap → Prop) =>
 iteB (decide (((v.2.2.2.len : Nat) : Int) > 12)) (
 K0u1 true h0u1
 ) (
 new [Value.bool v.1, Sl.toV v.2.1, Sl.toV v.2.2.1] h0u1 fun a_1 h0u3 =>
 law02uGreat (⟨some a_1, 1, 1⟩ : Sl) h0u3 fun v_2 h0u4 =>
 iteB v_2 (
 K0u1 true h0u4
 ) (
 ref12uRight (v.1, v.2.1, v.2.2.1, v.2.2.2) h0u4 fun v_3 h0u5 =>
 K0u1 (!v_3) h0u5
 )
 )
 ) (fun t0 h0u2 =>
 iteB t0 (
 Q true h0u2
 ) (
 loop (fun (s0u1 : Int) h0u6 (K0u2 : Int → Heap → Prop) =>
 iteB (decide (s0u1 < ((v.2.2.2.len : Nat) : Int))) (
 idxS v.2.2.2 s0u1 4 fun a_2 =>
 loadS C_i64ubool_sl_sl 4 a_2 h0u6 fun v_4 =>
 mem h0u6 fun h0u7 =>
 new [Value.bool v_4.2.1, Sl.toV v_4.2.2.1, Sl.toV v_4.2.2.2] h0u7 fun a_3 h0u8 =>
 law02uGreat (⟨some a_3, 1, 1⟩ : Sl) h0u8 fun v_6 h0u9 =>
 iteB v_6 (
 Q true h0u9
 ) (
 K0u2 (IntKind.wrap .i64 (s0u1 + 1)) h0u9
 )
 ) (
 K0 (IntKind.wrap .i64 (s0 + 1)) h0u6
 )
 ) 0 h0u2
 )
 )
 ) (
 Q false h0
 )
 ) 0 h
def ref03uRight (x0 : Bool × Sl × Sl × Bool × Sl × Sl) (h : Heap) (Q : Bool → Heap → Prop) : Prop :=
 mem h fun h0 =>
 seq (fun (K0 : Bool → Heap → Prop) =>
 ref02uRight (x0.1, x0.2.1, x0.2.2.1) h0 fun v h0u2 =>
 iteB v (
 ref02uRight (x0.2.2.2.1, x0.2.2.2.2.1, x0.2.2.2.2.2) h0u2 fun v_1 h0u3 =>
 K0 v_1 h0u3
 ) (
 K0 false h0u2
 )
 ) (fun t0 h0u1 =>
 Q t0 h0u1
 )
def law03uOdd (l : Sl) (h : Heap) (Q : Bool → Heap → Prop) : Prop :=
 loop (fun (s0 : Int) h0 (K0 : Int → Heap → Prop) =>
 iteB (decide (s0 < ((l.len : Nat) : Int))) (
 idxS l s0 6 fun a =>
 loadS C_bool_sl_sl_bool_sl_sl 6 a h0 fun v =>
 mem h0 fun h0u1 =>
 seq (fun (K0u1 : Bool → Heap → Prop) =>
 new [Value.bool v.1, Sl.toV v.2.1, Sl.toV v.2.2.1, Value.bool v.2.2.2.1, Sl.toV v.2.2.2.2.1, Sl.toV v.2.2.2.2.2] h0u1 fun a_1 h0u3 =>
 law02uGreat (⟨some a_1, 2, 2⟩ : Sl) h0u3 fun v_2 h0u4 =>
 iteB v_2 (
 K0u1 true h0u4
 ) (
 ref03uRight (v.1, v.2.1, v.2.2.1, v.2.2.2.1, v.2.2.2.2.1, v.2.2.2.2.2) h0u4 fun v_3 h0u5 =>
 K0u1 (!v_3) h0u5
 )
 ) (fun t0 h0u2 =>
 iteB t0 (
 Q true h0u2
 ) (
 K0 (IntKind.wrap .i64 (s0 + 1)) h0u2
 )
 )
 ) (
 Q false h0
 )
 ) 0 h
def slices_Index_int_int (s0 : Sl) (v : Int) (h : Heap) (Q : Int → Heap → Prop) : Prop :=
 loop (fun (s0u1 : Int) h0 (K0 : Int → Heap → Prop) =>
 iteB (decide (s0u1 < ((s0.len : Nat) : Int))) (
 idxS s0 s0u1 1 fun a =>
 Lift.load (Value.int .i64) a h0 fun v_1 =>
 iteB (v == v_1) (
 Q s0u1 h0
 ) (
 K0 (IntKind.wrap .i64 (s0u1 + 1)) h0
 )
 ) (
 Q (-1) h0
 )
 ) 0 h
def tableau_Row (t0 : Sl × Sl × Sl × Sl × Sl) (v : Int) (h : Heap) (Q : Int → Heap → Prop) : Prop :=
 mem h fun h0 =>
 slices_Index_int_int t0.1 v h0 fun v_1 h0u1 =>
 Q v_1 h0u1
def nat_Right (x0 : Sl) (h : Heap) (Q : Bool → Heap → Prop) : Prop :=
 nat_trim x0 h fun v h0 =>
 Q (((v.len : Nat) : Int) == ((x0.len : Nat) : Int)) h0
def ratio_Right (x0 : Bool × Sl × Sl) (h : Heap) (Q : Bool → Heap → Prop) : Prop :=
 mem h fun h0 =>
 seq (fun (K0 : Bool → Heap → Prop) =>
 nat_Right x0.2.1 h0 fun v h0u2 =>
 iteB (!v) (
 K0 true h0u2
 ) (
 nat_Right x0.2.2 h0u2 fun v_1 h0u3 =>
 iteB (!v_1) (
 K0 true h0u3
 ) (
 ratio_isOne x0.2.2 h0u3 fun v_2 h0u4 =>
 K0 v_2 h0u4
 )
 )
 ) (fun t0 h0u1 =>
 iteB t0 (
 Q false h0u1
 ) (
 iteB (((x0.2.1.len : Nat) : Int) == 0) (
 seq (fun (K0u1 : Bool → Heap → Prop) =>
 iteB (!x0.1) (
 K0u1 (((x0.2.2.len : Nat) : Int) == 0) h0u1
 ) (
 K0u1 false h0u1
 )
 ) (fun t0u1 h0u5 =>
 Q t0u1 h0u5
 )
 ) (
 ratio_free h0u1 fun v_3 h0u6 =>
 ratio_den (x0.1, x0.2.1, x0.2.2) h0u6 fun v_4 h0u7 =>
 nat_Bench_Gcd v_3 x0.2.1 v_4 h0u7 fun v_5 h0u8 =>
 ratio_isOne v_5 h0u8 fun v_6 h0u9 =>
 Q v_6 h0u9
 )
 )
 )
def tableau_Right_c1 (x0 : Bool × Sl × Sl × Bool × Sl × Sl) (h : Heap) (Q : Bool → Heap → Prop) : Prop :=
 mem h fun h0 =>
 seq (fun (K0 : Bool → Heap → Prop) =>
 ratio_Right (x0.1, x0.2.1, x0.2.2.1) h0 fun v h0u2 =>
 iteB v (
 ratio_Right (x0.2.2.2.1, x0.2.2.2.2.1, x0.2.2.2.2.2) h0u2 fun v_1 h0u3 =>
 K0 v_1 h0u3
 ) (
 K0 false h0u2
 )
 ) (fun t0 h0u1 =>
 Q t0 h0u1
 )
def tableau_Right_c2 (x0 : Bool × Sl × Sl × Bool × Sl × Sl) (c0 : Addr) (h : Heap) (Q : Bool → Heap → Prop) : Prop :=
 mem h fun h0 =>
 Lift.load FnV.toV c0 h0 fun v =>
 dyn (fun (K0 : Bool → Heap → Prop) =>
 (v = FnV.mk 55 [] [] ∧ tableau_Right_c1 (x0.1, x0.2.1, x0.2.2.1, x0.2.2.2.1, x0.2.2.2.2.1, x0.2.2.2.2.2) h0 K0)
 ) fun v_1 h0u1 =>
 Q (!v_1) h0u1
def slices_IndexFunc_api_Delta_api_Delta__tableau_Right_c2 (s0 : Sl) (f_c : Addr) (h : Heap) (Q : Int → Heap → Prop) : Prop :=
 loop (fun (s0u1 : Int) h0 (K0 : Int → Heap → Prop) =>
 iteB (decide (s0u1 < ((s0.len : Nat) : Int))) (
 idxS s0 s0u1 6 fun a =>
 loadS C_bool_sl_sl_bool_sl_sl 6 a h0 fun v =>
 tableau_Right_c2 (v.1, v.2.1, v.2.2.1, v.2.2.2.1, v.2.2.2.2.1, v.2.2.2.2.2) f_c h0 fun v_1 h0u1 =>
 iteB v_1 (
 Q s0u1 h0u1
 ) (
 K0 (IntKind.wrap .i64 (s0u1 + 1)) h0u1
 )
 ) (
 Q (-1) h0
 )
 ) 0 h
def slices_ContainsFunc_api_Delta_api_Delta__tableau_Right_c2 (s0 : Sl) (f_c : Addr) (h : Heap) (Q : Bool → Heap → Prop) : Prop :=
 slices_IndexFunc_api_Delta_api_Delta__tableau_Right_c2 s0 f_c h fun v h0 =>
 Q (decide (v ≥ 0)) h0
def slices_Grow_api_Edge_api_Edge (s0 : Sl) (n : Int) (h : Heap) (Q : Sl → Heap → Prop) : Prop :=
 seq (fun (K0 : Unit → Heap → Prop) =>
 iteB (decide (n < 0)) (
 False
 ) (
 K0 () h
 )
 ) (fun t0 h0 =>
 seq (fun (K0u1 : Sl → Heap → Prop) =>
 Let (IntKind.wrap .i64 (n - (IntKind.wrap .i64 (((s0.cap : Nat) : Int) - ((s0.len : Nat) : Int)))) : Int) fun n_1 =>
 iteB (decide (n_1 > 0)) (
 sliceOf s0 none (some ((s0.cap : Nat) : Int)) none 7 fun v =>
 appendZ 7 120 [Value.int .i64 0, Value.bool false, Sl.toV Sl.nil, Sl.toV Sl.nil, Value.bool false, Sl.toV Sl.nil, Sl.toV Sl.nil] v n_1 h0 fun v_1 h0u2 =>
 sliceOf v_1 none (some ((s0.len : Nat) : Int)) none 7 fun v_2 =>
 K0u1 v_2 h0u2
 ) (
 K0u1 s0 h0
 )
 ) (fun t0u1 h0u1 =>
 Q t0u1 h0u1
 )
 )
def slices_Concat_api_Edge_api_Edge (slices : Sl) (h : Heap) (Q : Sl → Heap → Prop) : Prop :=
 loop (fun (s0 : Int × Int) h0 (K0 : (Int × Int) → Heap → Prop) =>
 iteB (decide (s0.2 < ((slices.len : Nat) : Int))) (
 seq (fun (K0u1 : Int → Heap → Prop) =>
 idxS slices s0.2 1 fun a =>
 Lift.load Sl.toV a h0 fun v =>
 Let (IntKind.wrap .i64 (s0.1 + ((v.len : Nat) : Int)) : Int) fun size =>
 iteB (decide (size < 0)) (
 False
 ) (
 K0u1 size h0
 )
 ) (fun t0 h0u1 =>
 K0 (t0, IntKind.wrap .i64 (s0.2 + 1)) h0u1
 )
 ) (
 slices_Grow_api_Edge_api_Edge Sl.nil s0.1 h0 fun v_1 h0u2 =>
 loop (fun (s0u1 : Sl × Int) h0u3 (K0u2 : (Sl × Int) → Heap → Prop) =>
 iteB (decide (s0u1.2 < ((slices.len : Nat) : Int))) (
 idxS slices s0u1.2 1 fun a_1 =>
 Lift.load Sl.toV a_1 h0u3 fun v_2 =>
 appendS 7 120 s0u1.1 v_2 h0u3 fun v_3 h0u4 =>
 K0u2 (v_3, IntKind.wrap .i64 (s0u1.2 + 1)) h0u4
 ) (
 Q s0u1.1 h0u3
 )
 ) (v_1, 0) h0u2
 )
 ) (0, 0) h
def ratio_Cmp (x0 : Bool × Sl × Sl) (y : Bool × Sl × Sl) (h : Heap) (Q : Int → Heap → Prop) : Prop :=
 mem h fun h0 =>
 ratio_cross (x0.1, x0.2.1, x0.2.2) (y.1, y.2.1, y.2.2) h0 fun v h0u1 =>
 mem h0u1 fun h0u2 =>
 ratio_sum (v.1.1, v.1.2) ((!v.2.1), v.2.2) h0u2 fun v_1 h0u3 =>
 mem h0u3 fun h0u4 =>
 iteB (((v_1.2.len : Nat) : Int) == 0) (
 Q 0 h0u4
 ) (
 iteB v_1.1 (
 Q (-1) h0u4
 ) (
 Q 1 h0u4
 )
 )
def delta_Cmp (x0 : Bool × Sl × Sl × Bool × Sl × Sl) (y : Bool × Sl × Sl × Bool × Sl × Sl) (h : Heap) (Q : Int → Heap → Prop) : Prop :=
 mem h fun h0 =>
 ratio_Cmp (x0.1, x0.2.1, x0.2.2.1) (y.1, y.2.1, y.2.2.1) h0 fun v h0u1 =>
 iteB (v != 0) (
 Q v h0u1
 ) (
 ratio_Cmp (x0.2.2.2.1, x0.2.2.2.2.1, x0.2.2.2.2.2) (y.2.2.2.1, y.2.2.2.2.1, y.2.2.2.2.2) h0u1 fun v_1 h0u2 =>
 Q v_1 h0u2
 )
def tableau_same (x0 : Bool × Sl × Sl × Bool × Sl × Sl) (y : Bool × Sl × Sl × Bool × Sl × Sl) (h : Heap) (Q : Bool → Heap → Prop) : Prop :=
 mem h fun h0 =>
 delta_Cmp (x0.1, x0.2.1, x0.2.2.1, x0.2.2.2.1, x0.2.2.2.2.1, x0.2.2.2.2.2) (y.1, y.2.1, y.2.2.1, y.2.2.2.1, y.2.2.2.2.1, y.2.2.2.2.2) h0 fun v h0u1 =>
 Q (v == 0) h0u1
def tableau_edge (e : Int × Bool × Sl × Sl × Bool × Sl × Sl) (h : Heap) (Q : Bool → Heap → Prop) : Prop :=
 mem h fun h0 =>
 iteB (e.1 == 0) (
 seq (fun (K0 : Bool → Heap → Prop) =>
 tableau_same (e.2.1, e.2.2.1, e.2.2.2.1, e.2.2.2.2.1, e.2.2.2.2.2.1, e.2.2.2.2.2.2) (false, Sl.nil, Sl.nil, false, Sl.nil, Sl.nil) h0 fun v h0u2 =>
 iteB v (
 K0 ((IntKind.wrap .i64 (((e.2.2.2.1.len : Nat) : Int) + ((e.2.2.2.2.2.2.len : Nat) : Int))) == 0) h0u2
 ) (
 K0 false h0u2
 )
 ) (fun t0 h0u1 =>
 Q t0 h0u1
 )
 ) (
 seq (fun (K0u1 : Bool → Heap → Prop) =>
 ratio_Right (e.2.1, e.2.2.1, e.2.2.2.1) h0 fun v_1 h0u4 =>
 iteB v_1 (
 ratio_Right (e.2.2.2.2.1, e.2.2.2.2.2.1, e.2.2.2.2.2.2) h0u4 fun v_2 h0u5 =>
 K0u1 v_2 h0u5
 ) (
 K0u1 false h0u4
 )
 ) (fun t0u1 h0u3 =>
 Q t0u1 h0u3
 )
 )
def tableau_Right_c3 (e : Int × Bool × Sl × Sl × Bool × Sl × Sl) (h : Heap) (Q : Bool → Heap → Prop) : Prop :=
 mem h fun h0 =>
 tableau_edge (e.1, e.2.1, e.2.2.1, e.2.2.2.1, e.2.2.2.2.1, e.2.2.2.2.2.1, e.2.2.2.2.2.2) h0 fun v h0u1 =>
 Q (!v) h0u1
def slices_IndexFunc_api_Edge_api_Edge__tableau_Right_c3 (s0 : Sl) (h : Heap) (Q : Int → Heap → Prop) : Prop :=
 loop (fun (s0u1 : Int) h0 (K0 : Int → Heap → Prop) =>
 iteB (decide (s0u1 < ((s0.len : Nat) : Int))) (
 idxS s0 s0u1 7 fun a =>
 loadS C_i64ubool_sl_sl_bool_sl_sl 7 a h0 fun v =>
 tableau_Right_c3 (v.1, v.2.1, v.2.2.1, v.2.2.2.1, v.2.2.2.2.1, v.2.2.2.2.2.1, v.2.2.2.2.2.2) h0 fun v_1 h0u1 =>
 iteB v_1 (
 Q s0u1 h0u1
 ) (
 K0 (IntKind.wrap .i64 (s0u1 + 1)) h0u1
 )
 ) (
 Q (-1) h0
 )
 ) 0 h
def slices_ContainsFunc_api_Edge_api_Edge__tableau_Right_c3 (s0 : Sl) (h : Heap) (Q : Bool → Heap → Prop) : Prop :=
 slices_IndexFunc_api_Edge_api_Edge__tableau_Right_c3 s0 h fun v h0 =>
 Q (decide (v ≥ 0)) h0
def linear_Right (p : Bool × Sl × Sl × Sl) (h : Heap) (Q : Bool → Heap → Prop) : Prop :=
 mem h fun h0 =>
 loop (fun (s0 : Int × Int) h0u1 (K0 : (Int × Int) → Heap → Prop) =>
 iteB (decide (s0.2 < ((p.2.2.2.len : Nat) : Int))) (
 idxS p.2.2.2 s0.2 4 fun a =>
 loadS C_i64ubool_sl_sl 4 a h0u1 fun v =>
 mem h0u1 fun h0u2 =>
 seq (fun (K0u1 : Bool → Heap → Prop) =>
 iteB (decide (v.1 ≤ s0.1)) (
 K0u1 true h0u2
 ) (
 ratio_Sign (v.2.1, v.2.2.1, v.2.2.2) h0u2 fun v_1 h0u4 =>
 iteB (v_1 == 0) (
 K0u1 true h0u4
 ) (
 ratio_Right (v.2.1, v.2.2.1, v.2.2.2) h0u4 fun v_2 h0u5 =>
 K0u1 (!v_2) h0u5
 )
 )
 ) (fun t0 h0u3 =>
 iteB t0 (
 Q false h0u3
 ) (
 K0 (v.1, IntKind.wrap .i64 (s0.2 + 1)) h0u3
 )
 )
 ) (
 ratio_Right (p.1, p.2.1, p.2.2.1) h0u1 fun v_3 h0u6 =>
 Q v_3 h0u6
 )
 ) ((-1), 0) h0
def tableau_Right_c4 (m0 : Int × Bool × Sl × Sl) (c0 : Addr) (c1 : Addr) (h : Heap) (Q : Bool → Heap → Prop) : Prop :=
 mem h fun h0 =>
 seq (fun (K0 : Bool → Heap → Prop) =>
 Lift.load (Value.int .i64) c0 h0 fun v =>
 iteB (decide (m0.1 ≥ v)) (
 K0 true h0
 ) (
 loadS C_sl_sl_sl_sl_sl 5 c1 h0 fun v_1 =>
 tableau_Row (v_1.1, v_1.2.1, v_1.2.2.1, v_1.2.2.2.1, v_1.2.2.2.2) m0.1 h0 fun v_2 h0u2 =>
 K0 (decide (v_2 ≥ 0)) h0u2
 )
 ) (fun t0 h0u1 =>
 Q t0 h0u1
 )
def slices_IndexFunc_api_Mono_api_Mono__tableau_Right_c4 (s0 : Sl) (f_c : Addr) (f_c_1 : Addr) (h : Heap) (Q : Int → Heap → Prop) : Prop :=
 loop (fun (s0u1 : Int) h0 (K0 : Int → Heap → Prop) =>
 iteB (decide (s0u1 < ((s0.len : Nat) : Int))) (
 idxS s0 s0u1 4 fun a =>
 loadS C_i64ubool_sl_sl 4 a h0 fun v =>
 tableau_Right_c4 (v.1, v.2.1, v.2.2.1, v.2.2.2) f_c f_c_1 h0 fun v_1 h0u1 =>
 iteB v_1 (
 Q s0u1 h0u1
 ) (
 K0 (IntKind.wrap .i64 (s0u1 + 1)) h0u1
 )
 ) (
 Q (-1) h0
 )
 ) 0 h
def slices_ContainsFunc_api_Mono_api_Mono__tableau_Right_c4 (s0 : Sl) (f_c : Addr) (f_c_1 : Addr) (h : Heap) (Q : Bool → Heap → Prop) : Prop :=
 slices_IndexFunc_api_Mono_api_Mono__tableau_Right_c4 s0 f_c f_c_1 h fun v h0 =>
 Q (decide (v ≥ 0)) h0
def delta_both__ratio_Mul (b : (Option Addr)) (x0 : Bool × Sl × Sl × Bool × Sl × Sl) (y : Bool × Sl × Sl × Bool × Sl × Sl) (h : Heap) (Q : (Bool × Sl × Sl × Bool × Sl × Sl) → Heap → Prop) : Prop :=
 mem h fun h0 =>
 seq (fun (K0 : (Bool × Sl × Sl × Bool × Sl × Sl) → Heap → Prop) =>
 mem h0 fun h0u2 =>
 ratio_Mul b (x0.1, x0.2.1, x0.2.2.1) (y.1, y.2.1, y.2.2.1) h0u2 fun v_3 h0u9 =>
 mem h0u9 fun h0u10 =>
 ratio_Mul b (x0.2.2.2.1, x0.2.2.2.2.1, x0.2.2.2.2.2) (y.2.2.2.1, y.2.2.2.2.1, y.2.2.2.2.2) h0u10 fun v_4 h0u11 =>
 mem h0u11 fun h0u12 =>
 K0 (v_3.1, v_3.2.1, v_3.2.2, v_4.1, v_4.2.1, v_4.2.2) h0u12
 ) (fun t0 h0u1 =>
 nat_Bench_Over b h0u1 fun v_5 h0u13 =>
 iteB v_5 (
 Q (false, Sl.nil, Sl.nil, false, Sl.nil, Sl.nil) h0u13
 ) (
 Q (t0.1, t0.2.1, t0.2.2.1, t0.2.2.2.1, t0.2.2.2.2.1, t0.2.2.2.2.2) h0u13
 )
 )
def delta_Scale (b : (Option Addr)) (k : Bool × Sl × Sl) (x0 : Bool × Sl × Sl × Bool × Sl × Sl) (h : Heap) (Q : (Bool × Sl × Sl × Bool × Sl × Sl) → Heap → Prop) : Prop :=
 mem h fun h0 =>
 delta_both__ratio_Mul b (k.1, k.2.1, k.2.2, k.1, k.2.1, k.2.2) (x0.1, x0.2.1, x0.2.2.1, x0.2.2.2.1, x0.2.2.2.2.1, x0.2.2.2.2.2) h0 fun v h0u1 =>
 Q (v.1, v.2.1, v.2.2.1, v.2.2.2.1, v.2.2.2.2.1, v.2.2.2.2.2) h0u1
def delta_both__ratio_Add (b : (Option Addr)) (x0 : Bool × Sl × Sl × Bool × Sl × Sl) (y : Bool × Sl × Sl × Bool × Sl × Sl) (h : Heap) (Q : (Bool × Sl × Sl × Bool × Sl × Sl) → Heap → Prop) : Prop :=
 mem h fun h0 =>
 seq (fun (K0 : (Bool × Sl × Sl × Bool × Sl × Sl) → Heap → Prop) =>
 mem h0 fun h0u2 =>
 ratio_Add b (x0.1, x0.2.1, x0.2.2.1) (y.1, y.2.1, y.2.2.1) h0u2 fun v_3 h0u9 =>
 mem h0u9 fun h0u10 =>
 ratio_Add b (x0.2.2.2.1, x0.2.2.2.2.1, x0.2.2.2.2.2) (y.2.2.2.1, y.2.2.2.2.1, y.2.2.2.2.2) h0u10 fun v_4 h0u11 =>
 mem h0u11 fun h0u12 =>
 K0 (v_3.1, v_3.2.1, v_3.2.2, v_4.1, v_4.2.1, v_4.2.2) h0u12
 ) (fun t0 h0u1 =>
 nat_Bench_Over b h0u1 fun v_5 h0u13 =>
 iteB v_5 (
 Q (false, Sl.nil, Sl.nil, false, Sl.nil, Sl.nil) h0u13
 ) (
 Q (t0.1, t0.2.1, t0.2.2.1, t0.2.2.2.1, t0.2.2.2.2.1, t0.2.2.2.2.2) h0u13
 )
 )
def delta_Add (b : (Option Addr)) (x0 : Bool × Sl × Sl × Bool × Sl × Sl) (y : Bool × Sl × Sl × Bool × Sl × Sl) (h : Heap) (Q : (Bool × Sl × Sl × Bool × Sl × Sl) → Heap → Prop) : Prop :=
 mem h fun h0 =>
 delta_both__ratio_Add b (x0.1, x0.2.1, x0.2.2.1, x0.2.2.2.1, x0.2.2.2.2.1, x0.2.2.2.2.2) (y.1, y.2.1, y.2.2.1, y.2.2.2.1, y.2.2.2.2.1, y.2.2.2.2.2) h0 fun v h0u1 =>
 Q (v.1, v.2.1, v.2.2.1, v.2.2.2.1, v.2.2.2.2.1, v.2.2.2.2.2) h0u1
def tableau_value (b : (Option Addr)) (p : Bool × Sl × Sl × Sl) (values : Sl) (h : Heap) (Q : (Bool × Sl × Sl × Bool × Sl × Sl) → Heap → Prop) : Prop :=
 mem h fun h0 =>
 loop (fun (s0 : Int × Bool × Sl × Sl × Bool × Sl × Sl) h0u1 (K0 : (Int × Bool × Sl × Sl × Bool × Sl × Sl) → Heap → Prop) =>
 iteB (decide (s0.1 < ((p.2.2.2.len : Nat) : Int))) (
 idxS p.2.2.2 s0.1 4 fun a =>
 loadS C_i64ubool_sl_sl 4 a h0u1 fun v =>
 mem h0u1 fun h0u2 =>
 idxS values v.1 6 fun a_1 =>
 loadS C_bool_sl_sl_bool_sl_sl 6 a_1 h0u2 fun v_1 =>
 delta_Scale b (v.2.1, v.2.2.1, v.2.2.2) (v_1.1, v_1.2.1, v_1.2.2.1, v_1.2.2.2.1, v_1.2.2.2.2.1, v_1.2.2.2.2.2) h0u2 fun v_2 h0u3 =>
 delta_Add b (s0.2.1, s0.2.2.1, s0.2.2.2.1, s0.2.2.2.2.1, s0.2.2.2.2.2.1, s0.2.2.2.2.2.2) (v_2.1, v_2.2.1, v_2.2.2.1, v_2.2.2.2.1, v_2.2.2.2.2.1, v_2.2.2.2.2.2) h0u3 fun v_3 h0u4 =>
 K0 (IntKind.wrap .i64 (s0.1 + 1), v_3.1, v_3.2.1, v_3.2.2.1, v_3.2.2.2.1, v_3.2.2.2.2.1, v_3.2.2.2.2.2) h0u4
 ) (
 Q (s0.2.1, s0.2.2.1, s0.2.2.2.1, s0.2.2.2.2.1, s0.2.2.2.2.2.1, s0.2.2.2.2.2.2) h0u1
 )
 ) (0, false, Sl.nil, Sl.nil, false, Sl.nil, Sl.nil) h0
def tableau_Right (t0 : Sl × Sl × Sl × Sl × Sl) (h : Heap) (Q : Bool → Heap → Prop) : Prop :=
 new [Sl.toV t0.1, Sl.toV t0.2.1, Sl.toV t0.2.2.1, Sl.toV t0.2.2.2.1, Sl.toV t0.2.2.2.2] h fun t0u1 h0 =>
 Lift.load Sl.toV (t0u1.add 2) h0 fun v =>
 new [Value.int .i64 0] h0 fun n h0u1 =>
 Lift.store n (Value.int .i64 ((v.len : Nat) : Int)) h0u1 fun h0u2 =>
 seq (fun (K0 : Bool → Heap → Prop) =>
 Lift.load Sl.toV (t0u1.add 0) h0u2 fun v_1 =>
 Lift.load Sl.toV (t0u1.add 1) h0u2 fun v_2 =>
 iteB (((v_1.len : Nat) : Int) != ((v_2.len : Nat) : Int)) (
 K0 true h0u2
 ) (
 Lift.load Sl.toV (t0u1.add 3) h0u2 fun v_3 =>
 Lift.load (Value.int .i64) n h0u2 fun v_4 =>
 iteB (((v_3.len : Nat) : Int) != v_4) (
 K0 true h0u2
 ) (
 Lift.load Sl.toV (t0u1.add 4) h0u2 fun v_5 =>
 Lift.load (Value.int .i64) n h0u2 fun v_6 =>
 K0 (((v_5.len : Nat) : Int) != v_6) h0u2
 )
 )
 ) (fun t0u2 h0u3 =>
 iteB t0u2 (
 Q false h0u3
 ) (
 Lift.load Sl.toV (t0u1.add 0) h0u3 fun v_7 =>
 loop (fun (s0 : Int) h0u4 (K0u1 : Int → Heap → Prop) =>
 iteB (decide (s0 < ((v_7.len : Nat) : Int))) (
 idxS v_7 s0 1 fun a =>
 Lift.load (Value.int .i64) a h0u4 fun v_8 =>
 seq (fun (K0u2 : Bool → Heap → Prop) =>
 iteB (decide (v_8 < 0)) (
 K0u2 true h0u4
 ) (
 Lift.load (Value.int .i64) n h0u4 fun v_9 =>
 iteB (decide (v_8 ≥ v_9)) (
 K0u2 true h0u4
 ) (
 loadS C_sl_sl_sl_sl_sl 5 t0u1 h0u4 fun v_10 =>
 tableau_Row (v_10.1, v_10.2.1, v_10.2.2.1, v_10.2.2.2.1, v_10.2.2.2.2) v_8 h0u4 fun v_11 h0u6 =>
 K0u2 (v_11 != s0) h0u6
 )
 )
 ) (fun t0u3 h0u5 =>
 iteB t0u3 (
 Q false h0u5
 ) (
 K0u1 (IntKind.wrap .i64 (s0 + 1)) h0u5
 )
 )
 ) (
 new [Value.nilFunc] h0u4 fun number h0u7 =>
 Lift.store number (FnV.toV (FnV.mk 55 [] [])) h0u7 fun h0u8 =>
 seq (fun (K0u3 : Bool → Heap → Prop) =>
 Lift.load Sl.toV (t0u1.add 2) h0u8 fun v_12 =>
 slices_ContainsFunc_api_Delta_api_Delta__tableau_Right_c2 v_12 number h0u8 fun v_13 h0u10 =>
 iteB v_13 (
 K0u3 true h0u10
 ) (
 Lift.load Sl.toV (t0u1.add 3) h0u10 fun v_14 =>
 Lift.load Sl.toV (t0u1.add 4) h0u10 fun v_15 =>
 new [Sl.toV v_14, Sl.toV v_15] h0u10 fun a_1 h0u11 =>
 slices_Concat_api_Edge_api_Edge (⟨some a_1, 2, 2⟩ : Sl) h0u11 fun v_17 h0u12 =>
 slices_ContainsFunc_api_Edge_api_Edge__tableau_Right_c3 v_17 h0u12 fun v_18 h0u13 =>
 K0u3 v_18 h0u13
 )
 ) (fun t0u4 h0u9 =>
 iteB t0u4 (
 Q false h0u9
 ) (
 nat_New 1048576 h0u9 fun v_19 h0u14 =>
 Lift.load Sl.toV (t0u1.add 1) h0u14 fun v_20 =>
 loop (fun (s0u1 : Int) h0u15 (K0u4 : Int → Heap → Prop) =>
 iteB (decide (s0u1 < ((v_20.len : Nat) : Int))) (
 idxS v_20 s0u1 4 fun a_2 =>
 loadS C_bool_sl_sl_sl 4 a_2 h0u15 fun v_21 =>
 mem h0u15 fun h0u16 =>
 seq (fun (K0u5 : Bool → Heap → Prop) =>
 linear_Right (v_21.1, v_21.2.1, v_21.2.2.1, v_21.2.2.2) h0u16 fun v_22 h0u18 =>
 iteB (!v_22) (
 K0u5 true h0u18
 ) (
 ratio_Sign (v_21.1, v_21.2.1, v_21.2.2.1) h0u18 fun v_23 h0u19 =>
 iteB (v_23 != 0) (
 K0u5 true h0u19
 ) (
 slices_ContainsFunc_api_Mono_api_Mono__tableau_Right_c4 v_21.2.2.2 n t0u1 h0u19 fun v_24 h0u20 =>
 iteB v_24 (
 K0u5 true h0u20
 ) (
 Lift.load Sl.toV (t0u1.add 2) h0u20 fun v_25 =>
 Lift.load Sl.toV (t0u1.add 2) h0u20 fun v_26 =>
 Lift.load Sl.toV (t0u1.add 0) h0u20 fun v_27 =>
 idxS v_27 s0u1 1 fun a_3 =>
 Lift.load (Value.int .i64) a_3 h0u20 fun v_28 =>
 idxS v_26 v_28 6 fun a_4 =>
 loadS C_bool_sl_sl_bool_sl_sl 6 a_4 h0u20 fun v_29 =>
 tableau_value v_19 (v_21.1, v_21.2.1, v_21.2.2.1, v_21.2.2.2) v_25 h0u20 fun v_30 h0u21 =>
 (cell? h0u21 (t0u1.add 2) = some (Sl.toV v_26)) ∧
 (cell? h0u21 (t0u1.add 0) = some (Sl.toV v_27)) ∧
 (cell? h0u21 a_3 = some (Value.int .i64 v_28)) ∧
 (cells? h0u21 a_4 6 0 = some [Value.bool v_29.1, Sl.toV v_29.2.1, Sl.toV v_29.2.2.1, Value.bool v_29.2.2.2.1, Sl.toV v_29.2.2.2.2.1, Sl.toV v_29.2.2.2.2.2]) ∧
 tableau_same (v_30.1, v_30.2.1, v_30.2.2.1, v_30.2.2.2.1, v_30.2.2.2.2.1, v_30.2.2.2.2.2) (v_29.1, v_29.2.1, v_29.2.2.1, v_29.2.2.2.1, v_29.2.2.2.2.1, v_29.2.2.2.2.2) h0u21 fun v_31 h0u22 =>
 K0u5 (!v_31) h0u22
 )
 )
 )
 ) (fun t0u5 h0u17 =>
 iteB t0u5 (
 Q false h0u17
 ) (
 K0u4 (IntKind.wrap .i64 (s0u1 + 1)) h0u17
 )
 )
 ) (
 Q true h0u15
 )
 ) 0 h0u14
 )
 )
 )
 ) 0 h0u3
 )
 )
def ref14unumber (x0 : Bool × Sl × Sl × Bool × Sl × Sl) (h : Heap) (Q : Bool → Heap → Prop) : Prop :=
 mem h fun h0 =>
 ref03uRight (x0.1, x0.2.1, x0.2.2.1, x0.2.2.2.1, x0.2.2.2.2.1, x0.2.2.2.2.2) h0 fun v h0u1 =>
 Q v h0u1
def ref03uSame (x0 : Bool × Sl × Sl × Bool × Sl × Sl) (y : Bool × Sl × Sl × Bool × Sl × Sl) (h : Heap) (Q : Bool → Heap → Prop) : Prop :=
 mem h fun h0 =>
 seq (fun (K0 : Bool → Heap → Prop) =>
 ref02uSame (x0.1, x0.2.1, x0.2.2.1) (y.1, y.2.1, y.2.2.1) h0 fun v h0u2 =>
 iteB v (
 ref02uSame (x0.2.2.2.1, x0.2.2.2.2.1, x0.2.2.2.2.2) (y.2.2.2.1, y.2.2.2.2.1, y.2.2.2.2.2) h0u2 fun v_1 h0u3 =>
 K0 v_1 h0u3
 ) (
 K0 false h0u2
 )
 ) (fun t0 h0u1 =>
 Q t0 h0u1
 )
def ref14uRow (t0 : Sl × Sl × Sl × Sl × Sl) (v : Int) (h : Heap) (Q : Int → Heap → Prop) : Prop :=
 mem h fun h0 =>
 loop (fun (s0 : Int) h0u1 (K0 : Int → Heap → Prop) =>
 iteB (decide (s0 < ((t0.1.len : Nat) : Int))) (
 idxS t0.1 s0 1 fun a =>
 Lift.load (Value.int .i64) a h0u1 fun v_1 =>
 iteB (v_1 == v) (
 Q s0 h0u1
 ) (
 Let (IntKind.wrap .i64 (s0 + 1) : Int) fun i =>
 K0 i h0u1
 )
 ) (
 Q (-1) h0u1
 )
 ) 0 h0
def ref03uOf (x0 : Bool × Sl × Sl × Bool × Sl × Sl) (h : Heap) (Q : (Bool × Sl × Sl × Bool × Sl × Sl) → Heap → Prop) : Prop :=
 mem h fun h0 =>
 ref02uOf (x0.1, x0.2.1, x0.2.2.1) h0 fun v h0u1 =>
 ref02uOf (x0.2.2.2.1, x0.2.2.2.2.1, x0.2.2.2.2.2) h0u1 fun v_1 h0u2 =>
 Q (v.1, v.2.1, v.2.2, v_1.1, v_1.2.1, v_1.2.2) h0u2
def ref01uMul (x0 : Sl) (y : Sl) (h : Heap) (Q : Sl → Heap → Prop) : Prop :=
 Let (IntKind.wrap .i64 ((IntKind.wrap .i64 (((x0.len : Nat) : Int) + ((y.len : Nat) : Int))) + 1) : Int) fun t15 =>
 mkS [Value.int .i64 0] 8 t15 t15 h fun v h0 =>
 loop (fun (s0 : Int) h0u1 (K0 : Int → Heap → Prop) =>
 iteB (decide (s0 < ((x0.len : Nat) : Int))) (
 loop (fun (s0u1 : Int × Int) h0u2 (K0u1 : (Int × Int) → Heap → Prop) =>
 seq (fun (K0u2 : Bool → Heap → Prop) =>
 iteB (decide (s0u1.2 < ((y.len : Nat) : Int))) (
 K0u2 true h0u2
 ) (
 K0u2 (decide (s0u1.1 > 0)) h0u2
 )
 ) (fun t0 h0u3 =>
 iteB t0 (
 idxS v (IntKind.wrap .i64 (s0 + s0u1.2)) 1 fun a =>
 Lift.load (Value.int .i64) a h0u3 fun v_1 =>
 Let (IntKind.wrap .i64 (v_1 + s0u1.1) : Int) fun n =>
 seq (fun (K0u3 : Int → Heap → Prop) =>
 iteB (decide (s0u1.2 < ((y.len : Nat) : Int))) (
 idxS x0 s0 1 fun a_1 =>
 Lift.load (Value.int .i64) a_1 h0u3 fun v_2 =>
 idxS y s0u1.2 1 fun a_2 =>
 Lift.load (Value.int .i64) a_2 h0u3 fun v_3 =>
 Let (IntKind.wrap .i64 (n + (IntKind.wrap .i64 (v_2 * v_3))) : Int) fun n_1 =>
 K0u3 n_1 h0u3
 ) (
 K0u3 n h0u3
 )
 ) (fun t0u1 h0u4 =>
 idxS v (IntKind.wrap .i64 (s0 + s0u1.2)) 1 fun a_3 =>
 Lift.store a_3 (Value.int .i64 (Int.tmod t0u1 10)) h0u4 fun h0u5 =>
 Let (IntKind.wrap .i64 (Int.tdiv t0u1 10) : Int) fun carry =>
 Let (IntKind.wrap .i64 (s0u1.2 + 1) : Int) fun k =>
 K0u1 (carry, k) h0u5
 )
 ) (
 Let (IntKind.wrap .i64 (s0 + 1) : Int) fun i =>
 K0 i h0u3
 )
 )
 ) (0, 0) h0u1
 ) (
 ref01uCut v h0u1 fun v_4 h0u6 =>
 Q v_4 h0u6
 )
 ) 0 h0
def ref02uMul (x0 : Bool × Sl × Sl) (y : Bool × Sl × Sl) (h : Heap) (Q : (Bool × Sl × Sl) → Heap → Prop) : Prop :=
 mem h fun h0 =>
 ref01uMul x0.2.1 y.2.1 h0 fun v h0u1 =>
 ref01uMul x0.2.2 y.2.2 h0u1 fun v_1 h0u2 =>
 ref02uLow ((!(x0.1 == y.1)), v, v_1) h0u2 fun v_2 h0u3 =>
 Q (v_2.1, v_2.2.1, v_2.2.2) h0u3
def ref03uScale (k : Bool × Sl × Sl) (x0 : Bool × Sl × Sl × Bool × Sl × Sl) (h : Heap) (Q : (Bool × Sl × Sl × Bool × Sl × Sl) → Heap → Prop) : Prop :=
 mem h fun h0 =>
 ref02uMul (k.1, k.2.1, k.2.2) (x0.1, x0.2.1, x0.2.2.1) h0 fun v h0u1 =>
 ref02uMul (k.1, k.2.1, k.2.2) (x0.2.2.2.1, x0.2.2.2.2.1, x0.2.2.2.2.2) h0u1 fun v_1 h0u2 =>
 Q (v.1, v.2.1, v.2.2, v_1.1, v_1.2.1, v_1.2.2) h0u2
def ref01uAdd (x0 : Sl) (y : Sl) (h : Heap) (Q : Sl → Heap → Prop) : Prop :=
 new [] h fun a h0 =>
 Let ((⟨some a, 0, 0⟩ : Sl) : Sl) fun out =>
 loop (fun (s0 : Sl × Int × Int) h0u1 (K0 : (Sl × Int × Int) → Heap → Prop) =>
 seq (fun (K0u1 : Bool → Heap → Prop) =>
 iteB (decide (s0.2.2 < ((x0.len : Nat) : Int))) (
 K0u1 true h0u1
 ) (
 iteB (decide (s0.2.2 < ((y.len : Nat) : Int))) (
 K0u1 true h0u1
 ) (
 K0u1 (decide (s0.2.1 > 0)) h0u1
 )
 )
 ) (fun t0 h0u2 =>
 iteB t0 (
 seq (fun (K0u2 : Int → Heap → Prop) =>
 iteB (decide (s0.2.2 < ((x0.len : Nat) : Int))) (
 idxS x0 s0.2.2 1 fun a_1 =>
 Lift.load (Value.int .i64) a_1 h0u2 fun v_1 =>
 Let (IntKind.wrap .i64 (s0.2.1 + v_1) : Int) fun n =>
 K0u2 n h0u2
 ) (
 K0u2 s0.2.1 h0u2
 )
 ) (fun t0u1 h0u3 =>
 seq (fun (K0u3 : Int → Heap → Prop) =>
 iteB (decide (s0.2.2 < ((y.len : Nat) : Int))) (
 idxS y s0.2.2 1 fun a_2 =>
 Lift.load (Value.int .i64) a_2 h0u3 fun v_2 =>
 Let (IntKind.wrap .i64 (t0u1 + v_2) : Int) fun n_1 =>
 K0u3 n_1 h0u3
 ) (
 K0u3 t0u1 h0u3
 )
 ) (fun t0u2 h0u4 =>
 new [Value.int .i64 (Int.tmod t0u2 10)] h0u4 fun a_3 h0u5 =>
 appendS 1 8 s0.1 (⟨some a_3, 1, 1⟩ : Sl) h0u5 fun v_4 h0u6 =>
 Let (IntKind.wrap .i64 (Int.tdiv t0u2 10) : Int) fun carry =>
 Let (IntKind.wrap .i64 (s0.2.2 + 1) : Int) fun i =>
 K0 (v_4, carry, i) h0u6
 )
 )
 ) (
 ref01uCut s0.1 h0u2 fun v_5 h0u7 =>
 Q v_5 h0u7
 )
 )
 ) (out, 0, 0) h0
def ref02uAdd (x0 : Bool × Sl × Sl) (y : Bool × Sl × Sl) (h : Heap) (Q : (Bool × Sl × Sl) → Heap → Prop) : Prop :=
 mem h fun h0 =>
 ref01uMul x0.2.1 y.2.2 h0 fun v h0u1 =>
 ref01uMul y.2.1 x0.2.2 h0u1 fun v_1 h0u2 =>
 ref01uMul x0.2.2 y.2.2 h0u2 fun v_2 h0u3 =>
 iteB (x0.1 == y.1) (
 ref01uAdd v v_1 h0u3 fun v_3 h0u4 =>
 ref02uLow (x0.1, v_3, v_2) h0u4 fun v_4 h0u5 =>
 Q (v_4.1, v_4.2.1, v_4.2.2) h0u5
 ) (
 ref01uCmp v v_1 h0u3 fun v_5 h0u6 =>
 iteB (decide (v_5 ≥ 0)) (
 ref01uSub v v_1 h0u6 fun v_6 h0u7 =>
 ref02uLow (x0.1, v_6, v_2) h0u7 fun v_7 h0u8 =>
 Q (v_7.1, v_7.2.1, v_7.2.2) h0u8
 ) (
 ref01uSub v_1 v h0u6 fun v_8 h0u9 =>
 ref02uLow (y.1, v_8, v_2) h0u9 fun v_9 h0u10 =>
 Q (v_9.1, v_9.2.1, v_9.2.2) h0u10
 )
 )
def ref03uAdd (x0 : Bool × Sl × Sl × Bool × Sl × Sl) (y : Bool × Sl × Sl × Bool × Sl × Sl) (h : Heap) (Q : (Bool × Sl × Sl × Bool × Sl × Sl) → Heap → Prop) : Prop :=
 mem h fun h0 =>
 ref02uAdd (x0.1, x0.2.1, x0.2.2.1) (y.1, y.2.1, y.2.2.1) h0 fun v h0u1 =>
 ref02uAdd (x0.2.2.2.1, x0.2.2.2.2.1, x0.2.2.2.2.2) (y.2.2.2.1, y.2.2.2.2.1, y.2.2.2.2.2) h0u1 fun v_1 h0u2 =>
 Q (v.1, v.2.1, v.2.2, v_1.1, v_1.2.1, v_1.2.2) h0u2
def ref14uValue (p : Bool × Sl × Sl × Sl) (l : Sl) (h : Heap) (Q : (Bool × Sl × Sl × Bool × Sl × Sl) → Heap → Prop) : Prop :=
 mem h fun h0 =>
 ref03uOf (false, Sl.nil, Sl.nil, false, Sl.nil, Sl.nil) h0 fun v h0u1 =>
 mem h0u1 fun h0u2 =>
 loop (fun (s0 : Int × Bool × Sl × Sl × Bool × Sl × Sl) h0u3 (K0 : (Int × Bool × Sl × Sl × Bool × Sl × Sl) → Heap → Prop) =>
 iteB (decide (s0.1 < ((p.2.2.2.len : Nat) : Int))) (
 idxS p.2.2.2 s0.1 4 fun a =>
 loadS C_bool_sl_sl 3 (a.add 1) h0u3 fun v_1 =>
 idxS p.2.2.2 s0.1 4 fun a_1 =>
 Lift.load (Value.int .i64) (a_1.add 0) h0u3 fun v_2 =>
 idxS l v_2 6 fun a_2 =>
 loadS C_bool_sl_sl_bool_sl_sl 6 a_2 h0u3 fun v_3 =>
 ref02uOf (v_1.1, v_1.2.1, v_1.2.2) h0u3 fun v_4 h0u4 =>
 (cell? h0u4 (a_1.add 0) = some (Value.int .i64 v_2)) ∧
 (cells? h0u4 a_2 6 0 = some [Value.bool v_3.1, Sl.toV v_3.2.1, Sl.toV v_3.2.2.1, Value.bool v_3.2.2.2.1, Sl.toV v_3.2.2.2.2.1, Sl.toV v_3.2.2.2.2.2]) ∧
 ref03uOf (v_3.1, v_3.2.1, v_3.2.2.1, v_3.2.2.2.1, v_3.2.2.2.2.1, v_3.2.2.2.2.2) h0u4 fun v_5 h0u5 =>
 ref03uScale (v_4.1, v_4.2.1, v_4.2.2) (v_5.1, v_5.2.1, v_5.2.2.1, v_5.2.2.2.1, v_5.2.2.2.2.1, v_5.2.2.2.2.2) h0u5 fun v_6 h0u6 =>
 ref03uAdd (s0.2.1, s0.2.2.1, s0.2.2.2.1, s0.2.2.2.2.1, s0.2.2.2.2.2.1, s0.2.2.2.2.2.2) (v_6.1, v_6.2.1, v_6.2.2.1, v_6.2.2.2.1, v_6.2.2.2.2.1, v_6.2.2.2.2.2) h0u6 fun v_7 h0u7 =>
 Let (IntKind.wrap .i64 (s0.1 + 1) : Int) fun i =>
 K0 (i, v_7.1, v_7.2.1, v_7.2.2.1, v_7.2.2.2.1, v_7.2.2.2.2.1, v_7.2.2.2.2.2) h0u7
 ) (
 Q (s0.2.1, s0.2.2.1, s0.2.2.2.1, s0.2.2.2.2.1, s0.2.2.2.2.2.1, s0.2.2.2.2.2.2) h0u3
 )
 ) (0, v.1, v.2.1, v.2.2.1, v.2.2.2.1, v.2.2.2.2.1, v.2.2.2.2.2) h0u2
def ref02uNeg (x0 : Bool × Sl × Sl) (h : Heap) (Q : (Bool × Sl × Sl) → Heap → Prop) : Prop :=
 mem h fun h0 =>
 seq (fun (K0 : (Bool × Sl × Sl) → Heap → Prop) =>
 iteB (!x0.1) (
 K0 (decide (((x0.2.1.len : Nat) : Int) > 0), x0.2.1, x0.2.2) h0
 ) (
 K0 (false, x0.2.1, x0.2.2) h0
 )
 ) (fun t0 h0u1 =>
 Q (t0.1, t0.2.1, t0.2.2) h0u1
 )
def ref02uCmp (x0 : Bool × Sl × Sl) (y : Bool × Sl × Sl) (h : Heap) (Q : Int → Heap → Prop) : Prop :=
 mem h fun h0 =>
 seq (fun (K0 : (Bool × Sl × Sl) → Heap → Prop) =>
 mem h0 fun h0u2 =>
 ref02uNeg (y.1, y.2.1, y.2.2) h0u2 fun v_3 h0u9 =>
 mem h0u9 fun h0u10 =>
 ref02uAdd (x0.1, x0.2.1, x0.2.2) (v_3.1, v_3.2.1, v_3.2.2) h0u10 fun v_4 h0u11 =>
 mem h0u11 fun h0u12 =>
 K0 (v_4.1, v_4.2.1, v_4.2.2) h0u12
 ) (fun t0 h0u1 =>
 iteB (((t0.2.1.len : Nat) : Int) == 0) (
 Q 0 h0u1
 ) (
 iteB t0.1 (
 Q (-1) h0u1
 ) (
 Q 1 h0u1
 )
 )
 )
def ref03uCmp (x0 : Bool × Sl × Sl × Bool × Sl × Sl) (y : Bool × Sl × Sl × Bool × Sl × Sl) (h : Heap) (Q : Int → Heap → Prop) : Prop :=
 mem h fun h0 =>
 ref02uCmp (x0.1, x0.2.1, x0.2.2.1) (y.1, y.2.1, y.2.2.1) h0 fun v h0u1 =>
 seq (fun (K0 : Int → Heap → Prop) =>
 iteB (v == 0) (
 ref02uCmp (x0.2.2.2.1, x0.2.2.2.2.1, x0.2.2.2.2.2) (y.2.2.2.1, y.2.2.2.2.1, y.2.2.2.2.2) h0u1 fun v_1 h0u3 =>
 K0 v_1 h0u3
 ) (
 K0 v h0u1
 )
 ) (fun t0 h0u2 =>
 Q t0 h0u2
 )
def ref14uRight (t0 : Sl × Sl × Sl × Sl × Sl) (h : Heap) (Q : Bool → Heap → Prop) : Prop :=
 mem h fun h0 =>
 Let (((t0.2.2.1.len : Nat) : Int) : Int) fun n =>
 seq (fun (K0 : Bool → Heap → Prop) =>
 iteB (((t0.1.len : Nat) : Int) != ((t0.2.1.len : Nat) : Int)) (
 K0 true h0
 ) (
 iteB (((t0.2.2.2.1.len : Nat) : Int) != n) (
 K0 true h0
 ) (
 K0 (((t0.2.2.2.2.len : Nat) : Int) != n) h0
 )
 )
 ) (fun t0u1 h0u1 =>
 iteB t0u1 (
 Q false h0u1
 ) (
 loop (fun (s0 : Int) h0u2 (K0u1 : Int → Heap → Prop) =>
 iteB (decide (s0 < n)) (
 seq (fun (K0u2 : Bool → Heap → Prop) =>
 idxS t0.2.2.1 s0 6 fun a =>
 loadS C_bool_sl_sl_bool_sl_sl 6 a h0u2 fun v =>
 ref14unumber (v.1, v.2.1, v.2.2.1, v.2.2.2.1, v.2.2.2.2.1, v.2.2.2.2.2) h0u2 fun v_1 h0u4 =>
 iteB (!v_1) (
 K0u2 true h0u4
 ) (
 idxS t0.2.2.2.1 s0 7 fun a_1 =>
 loadS C_bool_sl_sl_bool_sl_sl 6 (a_1.add 1) h0u4 fun v_2 =>
 ref14unumber (v_2.1, v_2.2.1, v_2.2.2.1, v_2.2.2.2.1, v_2.2.2.2.2.1, v_2.2.2.2.2.2) h0u4 fun v_3 h0u5 =>
 iteB (!v_3) (
 K0u2 true h0u5
 ) (
 idxS t0.2.2.2.2 s0 7 fun a_2 =>
 loadS C_bool_sl_sl_bool_sl_sl 6 (a_2.add 1) h0u5 fun v_4 =>
 ref14unumber (v_4.1, v_4.2.1, v_4.2.2.1, v_4.2.2.2.1, v_4.2.2.2.2.1, v_4.2.2.2.2.2) h0u5 fun v_5 h0u6 =>
 K0u2 (!v_5) h0u6
 )
 )
 ) (fun t0u2 h0u3 =>
 iteB t0u2 (
 Q false h0u3
 ) (
 seq (fun (K0u3 : Bool → Heap → Prop) =>
 idxS t0.2.2.2.1 s0 7 fun a_3 =>
 Lift.load (Value.int .i64) (a_3.add 0) h0u3 fun v_6 =>
 iteB (v_6 == 0) (
 idxS t0.2.2.2.1 s0 7 fun a_4 =>
 loadS C_bool_sl_sl_bool_sl_sl 6 (a_4.add 1) h0u3 fun v_7 =>
 ref03uSame (v_7.1, v_7.2.1, v_7.2.2.1, v_7.2.2.2.1, v_7.2.2.2.2.1, v_7.2.2.2.2.2) (false, Sl.nil, Sl.nil, false, Sl.nil, Sl.nil) h0u3 fun v_8 h0u8 =>
 iteB (!v_8) (
 K0u3 true h0u8
 ) (
 idxS t0.2.2.2.2 s0 7 fun a_5 =>
 Lift.load (Value.int .i64) (a_5.add 0) h0u8 fun v_9 =>
 iteB (v_9 == 0) (
 idxS t0.2.2.2.2 s0 7 fun a_6 =>
 loadS C_bool_sl_sl_bool_sl_sl 6 (a_6.add 1) h0u8 fun v_10 =>
 ref03uSame (v_10.1, v_10.2.1, v_10.2.2.1, v_10.2.2.2.1, v_10.2.2.2.2.1, v_10.2.2.2.2.2) (false, Sl.nil, Sl.nil, false, Sl.nil, Sl.nil) h0u8 fun v_11 h0u9 =>
 K0u3 (!v_11) h0u9
 ) (
 K0u3 false h0u8
 )
 )
 ) (
 idxS t0.2.2.2.2 s0 7 fun a_7 =>
 Lift.load (Value.int .i64) (a_7.add 0) h0u3 fun v_12 =>
 iteB (v_12 == 0) (
 idxS t0.2.2.2.2 s0 7 fun a_8 =>
 loadS C_bool_sl_sl_bool_sl_sl 6 (a_8.add 1) h0u3 fun v_13 =>
 ref03uSame (v_13.1, v_13.2.1, v_13.2.2.1, v_13.2.2.2.1, v_13.2.2.2.2.1, v_13.2.2.2.2.2) (false, Sl.nil, Sl.nil, false, Sl.nil, Sl.nil) h0u3 fun v_14 h0u10 =>
 K0u3 (!v_14) h0u10
 ) (
 K0u3 false h0u3
 )
 )
 ) (fun t0u3 h0u7 =>
 iteB t0u3 (
 Q false h0u7
 ) (
 Let (IntKind.wrap .i64 (s0 + 1) : Int) fun i =>
 K0u1 i h0u7
 )
 )
 )
 )
 ) (
 loop (fun (s0u1 : Int) h0u11 (K0u4 : Int → Heap → Prop) =>
 iteB (decide (s0u1 < ((t0.2.1.len : Nat) : Int))) (
 idxS t0.1 s0u1 1 fun a_9 =>
 Lift.load (Value.int .i64) a_9 h0u11 fun v_15 =>
 seq (fun (K0u5 : Bool → Heap → Prop) =>
 iteB (decide (v_15 < 0)) (
 K0u5 true h0u11
 ) (
 iteB (decide (v_15 ≥ n)) (
 K0u5 true h0u11
 ) (
 ref14uRow (t0.1, t0.2.1, t0.2.2.1, t0.2.2.2.1, t0.2.2.2.2) v_15 h0u11 fun v_16 h0u13 =>
 iteB (v_16 != s0u1) (
 K0u5 true h0u13
 ) (
 idxS t0.2.1 s0u1 4 fun a_10 =>
 loadS C_bool_sl_sl_sl 4 a_10 h0u13 fun v_17 =>
 ref12uRight (v_17.1, v_17.2.1, v_17.2.2.1, v_17.2.2.2) h0u13 fun v_18 h0u14 =>
 iteB (!v_18) (
 K0u5 true h0u14
 ) (
 idxS t0.2.1 s0u1 4 fun a_11 =>
 Lift.load Sl.toV (((a_11.add 0).add 0).add 1) h0u14 fun v_19 =>
 K0u5 (decide (((v_19.len : Nat) : Int) > 0)) h0u14
 )
 )
 )
 )
 ) (fun t0u4 h0u12 =>
 iteB t0u4 (
 Q false h0u12
 ) (
 loop (fun (s0u2 : Int) h0u15 (K0u6 : Int → Heap → Prop) =>
 idxS t0.2.1 s0u1 4 fun a_12 =>
 Lift.load Sl.toV (a_12.add 3) h0u15 fun v_20 =>
 iteB (decide (s0u2 < ((v_20.len : Nat) : Int))) (
 idxS t0.2.1 s0u1 4 fun a_13 =>
 Lift.load Sl.toV (a_13.add 3) h0u15 fun v_21 =>
 idxS v_21 s0u2 4 fun a_14 =>
 Lift.load (Value.int .i64) (a_14.add 0) h0u15 fun v_22 =>
 seq (fun (K0u7 : Bool → Heap → Prop) =>
 iteB (decide (v_22 ≥ n)) (
 K0u7 true h0u15
 ) (
 ref14uRow (t0.1, t0.2.1, t0.2.2.1, t0.2.2.2.1, t0.2.2.2.2) v_22 h0u15 fun v_23 h0u17 =>
 K0u7 (decide (v_23 ≥ 0)) h0u17
 )
 ) (fun t0u5 h0u16 =>
 iteB t0u5 (
 Q false h0u16
 ) (
 Let (IntKind.wrap .i64 (s0u2 + 1) : Int) fun k =>
 K0u6 k h0u16
 )
 )
 ) (
 idxS t0.2.1 s0u1 4 fun a_15 =>
 loadS C_bool_sl_sl_sl 4 a_15 h0u15 fun v_24 =>
 idxS t0.2.2.1 v_15 6 fun a_16 =>
 loadS C_bool_sl_sl_bool_sl_sl 6 a_16 h0u15 fun v_25 =>
 ref14uValue (v_24.1, v_24.2.1, v_24.2.2.1, v_24.2.2.2) t0.2.2.1 h0u15 fun v_26 h0u18 =>
 (cells? h0u18 a_16 6 0 = some [Value.bool v_25.1, Sl.toV v_25.2.1, Sl.toV v_25.2.2.1, Value.bool v_25.2.2.2.1, Sl.toV v_25.2.2.2.2.1, Sl.toV v_25.2.2.2.2.2]) ∧
 ref03uOf (v_25.1, v_25.2.1, v_25.2.2.1, v_25.2.2.2.1, v_25.2.2.2.2.1, v_25.2.2.2.2.2) h0u18 fun v_27 h0u19 =>
 ref03uCmp (v_26.1, v_26.2.1, v_26.2.2.1, v_26.2.2.2.1, v_26.2.2.2.2.1, v_26.2.2.2.2.2) (v_27.1, v_27.2.1, v_27.2.2.1, v_27.2.2.2.1, v_27.2.2.2.2.1, v_27.2.2.2.2.2) h0u19 fun v_28 h0u20 =>
 iteB (v_28 != 0) (
 Q false h0u20
 ) (
 Let (IntKind.wrap .i64 (s0u1 + 1) : Int) fun i_1 =>
 K0u4 i_1 h0u20
 )
 )
 ) 0 h0u12
 )
 )
 ) (
 Q true h0u11
 )
 ) 0 h0u2
 )
 ) 0 h0u1
 )
 )
def slices_Equal_int_int (s1 : Sl) (s2 : Sl) (h : Heap) (Q : Bool → Heap → Prop) : Prop :=
 iteB (((s1.len : Nat) : Int) != ((s2.len : Nat) : Int)) (
 Q false h
 ) (
 loop (fun (s0 : Int) h0 (K0 : Int → Heap → Prop) =>
 iteB (decide (s0 < ((s1.len : Nat) : Int))) (
 idxS s1 s0 1 fun a =>
 Lift.load (Value.int .i64) a h0 fun v =>
 idxS s2 s0 1 fun a_1 =>
 Lift.load (Value.int .i64) a_1 h0 fun v_1 =>
 iteB (v != v_1) (
 Q false h0
 ) (
 K0 (IntKind.wrap .i64 (s0 + 1)) h0
 )
 ) (
 Q true h0
 )
 ) 0 h
 )
def linear_Same_c1 (x0 : Int × Bool × Sl × Sl) (y : Int × Bool × Sl × Sl) (h : Heap) (Q : Bool → Heap → Prop) : Prop :=
 mem h fun h0 =>
 seq (fun (K0 : Bool → Heap → Prop) =>
 iteB (x0.1 == y.1) (
 ratio_Cmp (x0.2.1, x0.2.2.1, x0.2.2.2) (y.2.1, y.2.2.1, y.2.2.2) h0 fun v h0u2 =>
 K0 (v == 0) h0u2
 ) (
 K0 false h0
 )
 ) (fun t0 h0u1 =>
 Q t0 h0u1
 )
def slices_EqualFunc_api_Mono_api_Mono_api_Mono_api_Mono__linear_Same_c1 (s1 : Sl) (s2 : Sl) (h : Heap) (Q : Bool → Heap → Prop) : Prop :=
 iteB (((s1.len : Nat) : Int) != ((s2.len : Nat) : Int)) (
 Q false h
 ) (
 loop (fun (s0 : Int) h0 (K0 : Int → Heap → Prop) =>
 iteB (decide (s0 < ((s1.len : Nat) : Int))) (
 idxS s1 s0 4 fun a =>
 loadS C_i64ubool_sl_sl 4 a h0 fun v =>
 mem h0 fun h0u1 =>
 idxS s2 s0 4 fun a_1 =>
 loadS C_i64ubool_sl_sl 4 a_1 h0u1 fun v_1 =>
 mem h0u1 fun h0u2 =>
 linear_Same_c1 (v.1, v.2.1, v.2.2.1, v.2.2.2) (v_1.1, v_1.2.1, v_1.2.2.1, v_1.2.2.2) h0u2 fun v_2 h0u3 =>
 iteB (!v_2) (
 Q false h0u3
 ) (
 K0 (IntKind.wrap .i64 (s0 + 1)) h0u3
 )
 ) (
 Q true h0
 )
 ) 0 h
 )
def linear_Same (p : Bool × Sl × Sl × Sl) (q : Bool × Sl × Sl × Sl) (h : Heap) (Q : Bool → Heap → Prop) : Prop :=
 mem h fun h0 =>
 seq (fun (K0 : Bool → Heap → Prop) =>
 ratio_Cmp (p.1, p.2.1, p.2.2.1) (q.1, q.2.1, q.2.2.1) h0 fun v h0u2 =>
 iteB (v == 0) (
 slices_EqualFunc_api_Mono_api_Mono_api_Mono_api_Mono__linear_Same_c1 p.2.2.2 q.2.2.2 h0u2 fun v_1 h0u3 =>
 K0 v_1 h0u3
 ) (
 K0 false h0u2
 )
 ) (fun t0 h0u1 =>
 Q t0 h0u1
 )
def slices_EqualFunc_api_Poly_api_Poly_api_Poly_api_Poly__linear_Same (s1 : Sl) (s2 : Sl) (h : Heap) (Q : Bool → Heap → Prop) : Prop :=
 iteB (((s1.len : Nat) : Int) != ((s2.len : Nat) : Int)) (
 Q false h
 ) (
 loop (fun (s0 : Int) h0 (K0 : Int → Heap → Prop) =>
 iteB (decide (s0 < ((s1.len : Nat) : Int))) (
 idxS s1 s0 4 fun a =>
 loadS C_bool_sl_sl_sl 4 a h0 fun v =>
 mem h0 fun h0u1 =>
 idxS s2 s0 4 fun a_1 =>
 loadS C_bool_sl_sl_sl 4 a_1 h0u1 fun v_1 =>
 mem h0u1 fun h0u2 =>
 linear_Same (v.1, v.2.1, v.2.2.1, v.2.2.2) (v_1.1, v_1.2.1, v_1.2.2.1, v_1.2.2.2) h0u2 fun v_2 h0u3 =>
 iteB (!v_2) (
 Q false h0u3
 ) (
 K0 (IntKind.wrap .i64 (s0 + 1)) h0u3
 )
 ) (
 Q true h0
 )
 ) 0 h
 )
def slices_EqualFunc_api_Delta_api_Delta_api_Delta_api_Delta__tableau_same (s1 : Sl) (s2 : Sl) (h : Heap) (Q : Bool → Heap → Prop) : Prop :=
 iteB (((s1.len : Nat) : Int) != ((s2.len : Nat) : Int)) (
 Q false h
 ) (
 loop (fun (s0 : Int) h0 (K0 : Int → Heap → Prop) =>
 iteB (decide (s0 < ((s1.len : Nat) : Int))) (
 idxS s1 s0 6 fun a =>
 loadS C_bool_sl_sl_bool_sl_sl 6 a h0 fun v =>
 mem h0 fun h0u1 =>
 idxS s2 s0 6 fun a_1 =>
 loadS C_bool_sl_sl_bool_sl_sl 6 a_1 h0u1 fun v_1 =>
 mem h0u1 fun h0u2 =>
 tableau_same (v.1, v.2.1, v.2.2.1, v.2.2.2.1, v.2.2.2.2.1, v.2.2.2.2.2) (v_1.1, v_1.2.1, v_1.2.2.1, v_1.2.2.2.1, v_1.2.2.2.2.1, v_1.2.2.2.2.2) h0u2 fun v_2 h0u3 =>
 iteB (!v_2) (
 Q false h0u3
 ) (
 K0 (IntKind.wrap .i64 (s0 + 1)) h0u3
 )
 ) (
 Q true h0
 )
 ) 0 h
 )
def tableau_Same_c1 (x0 : Int × Bool × Sl × Sl × Bool × Sl × Sl) (y : Int × Bool × Sl × Sl × Bool × Sl × Sl) (h : Heap) (Q : Bool → Heap → Prop) : Prop :=
 mem h fun h0 =>
 seq (fun (K0 : Bool → Heap → Prop) =>
 iteB (x0.1 == y.1) (
 tableau_same (x0.2.1, x0.2.2.1, x0.2.2.2.1, x0.2.2.2.2.1, x0.2.2.2.2.2.1, x0.2.2.2.2.2.2) (y.2.1, y.2.2.1, y.2.2.2.1, y.2.2.2.2.1, y.2.2.2.2.2.1, y.2.2.2.2.2.2) h0 fun v h0u2 =>
 K0 v h0u2
 ) (
 K0 false h0
 )
 ) (fun t0 h0u1 =>
 Q t0 h0u1
 )
def slices_EqualFunc_api_Edge_api_Edge_api_Edge_api_Edge__tableau_Same_c1 (s1 : Sl) (s2 : Sl) (h : Heap) (Q : Bool → Heap → Prop) : Prop :=
 iteB (((s1.len : Nat) : Int) != ((s2.len : Nat) : Int)) (
 Q false h
 ) (
 loop (fun (s0 : Int) h0 (K0 : Int → Heap → Prop) =>
 iteB (decide (s0 < ((s1.len : Nat) : Int))) (
 idxS s1 s0 7 fun a =>
 loadS C_i64ubool_sl_sl_bool_sl_sl 7 a h0 fun v =>
 mem h0 fun h0u1 =>
 idxS s2 s0 7 fun a_1 =>
 loadS C_i64ubool_sl_sl_bool_sl_sl 7 a_1 h0u1 fun v_1 =>
 mem h0u1 fun h0u2 =>
 tableau_Same_c1 (v.1, v.2.1, v.2.2.1, v.2.2.2.1, v.2.2.2.2.1, v.2.2.2.2.2.1, v.2.2.2.2.2.2) (v_1.1, v_1.2.1, v_1.2.2.1, v_1.2.2.2.1, v_1.2.2.2.2.1, v_1.2.2.2.2.2.1, v_1.2.2.2.2.2.2) h0u2 fun v_2 h0u3 =>
 iteB (!v_2) (
 Q false h0u3
 ) (
 K0 (IntKind.wrap .i64 (s0 + 1)) h0u3
 )
 ) (
 Q true h0
 )
 ) 0 h
 )
def tableau_Same (s0 : Sl × Sl × Sl × Sl × Sl) (t0 : Sl × Sl × Sl × Sl × Sl) (h : Heap) (Q : Bool → Heap → Prop) : Prop :=
 mem h fun h0 =>
 seq (fun (K0 : Bool → Heap → Prop) =>
 slices_Equal_int_int s0.1 t0.1 h0 fun v h0u2 =>
 iteB v (
 slices_EqualFunc_api_Poly_api_Poly_api_Poly_api_Poly__linear_Same s0.2.1 t0.2.1 h0u2 fun v_1 h0u3 =>
 iteB v_1 (
 slices_EqualFunc_api_Delta_api_Delta_api_Delta_api_Delta__tableau_same s0.2.2.1 t0.2.2.1 h0u3 fun v_2 h0u4 =>
 iteB v_2 (
 slices_EqualFunc_api_Edge_api_Edge_api_Edge_api_Edge__tableau_Same_c1 s0.2.2.2.1 t0.2.2.2.1 h0u4 fun v_3 h0u5 =>
 iteB v_3 (
 slices_EqualFunc_api_Edge_api_Edge_api_Edge_api_Edge__tableau_Same_c1 s0.2.2.2.2 t0.2.2.2.2 h0u5 fun v_4 h0u6 =>
 K0 v_4 h0u6
 ) (
 K0 false h0u5
 )
 ) (
 K0 false h0u4
 )
 ) (
 K0 false h0u3
 )
 ) (
 K0 false h0u2
 )
 ) (fun t0u1 h0u1 =>
 Q t0u1 h0u1
 )
def ref12uSame (p : Bool × Sl × Sl × Sl) (q : Bool × Sl × Sl × Sl) (h : Heap) (Q : Bool → Heap → Prop) : Prop :=
 mem h fun h0 =>
 seq (fun (K0 : Bool → Heap → Prop) =>
 ref02uSame (p.1, p.2.1, p.2.2.1) (q.1, q.2.1, q.2.2.1) h0 fun v h0u2 =>
 iteB (!v) (
 K0 true h0u2
 ) (
 K0 (((p.2.2.2.len : Nat) : Int) != ((q.2.2.2.len : Nat) : Int)) h0u2
 )
 ) (fun t0 h0u1 =>
 iteB t0 (
 Q false h0u1
 ) (
 loop (fun (s0 : Int) h0u3 (K0u1 : Int → Heap → Prop) =>
 iteB (decide (s0 < ((p.2.2.2.len : Nat) : Int))) (
 seq (fun (K0u2 : Bool → Heap → Prop) =>
 idxS p.2.2.2 s0 4 fun a =>
 Lift.load (Value.int .i64) (a.add 0) h0u3 fun v_1 =>
 idxS q.2.2.2 s0 4 fun a_1 =>
 Lift.load (Value.int .i64) (a_1.add 0) h0u3 fun v_2 =>
 iteB (v_1 != v_2) (
 K0u2 true h0u3
 ) (
 idxS p.2.2.2 s0 4 fun a_2 =>
 loadS C_bool_sl_sl 3 (a_2.add 1) h0u3 fun v_3 =>
 idxS q.2.2.2 s0 4 fun a_3 =>
 loadS C_bool_sl_sl 3 (a_3.add 1) h0u3 fun v_4 =>
 ref02uSame (v_3.1, v_3.2.1, v_3.2.2) (v_4.1, v_4.2.1, v_4.2.2) h0u3 fun v_5 h0u5 =>
 K0u2 (!v_5) h0u5
 )
 ) (fun t0u1 h0u4 =>
 iteB t0u1 (
 Q false h0u4
 ) (
 Let (IntKind.wrap .i64 (s0 + 1) : Int) fun i =>
 K0u1 i h0u4
 )
 )
 ) (
 Q true h0u3
 )
 ) 0 h0u1
 )
 )
def ref14uSame (s0 : Sl × Sl × Sl × Sl × Sl) (t0 : Sl × Sl × Sl × Sl × Sl) (h : Heap) (Q : Bool → Heap → Prop) : Prop :=
 mem h fun h0 =>
 seq (fun (K0 : Bool → Heap → Prop) =>
 iteB (((s0.1.len : Nat) : Int) != ((t0.1.len : Nat) : Int)) (
 K0 true h0
 ) (
 iteB (((s0.2.1.len : Nat) : Int) != ((t0.2.1.len : Nat) : Int)) (
 K0 true h0
 ) (
 iteB (((s0.2.2.1.len : Nat) : Int) != ((t0.2.2.1.len : Nat) : Int)) (
 K0 true h0
 ) (
 iteB (((s0.2.2.2.1.len : Nat) : Int) != ((t0.2.2.2.1.len : Nat) : Int)) (
 K0 true h0
 ) (
 K0 (((s0.2.2.2.2.len : Nat) : Int) != ((t0.2.2.2.2.len : Nat) : Int)) h0
 )
 )
 )
 )
 ) (fun t0u1 h0u1 =>
 iteB t0u1 (
 Q false h0u1
 ) (
 loop (fun (s0u1 : Int) h0u2 (K0u1 : Int → Heap → Prop) =>
 iteB (decide (s0u1 < ((s0.1.len : Nat) : Int))) (
 idxS s0.1 s0u1 1 fun a =>
 Lift.load (Value.int .i64) a h0u2 fun v =>
 idxS t0.1 s0u1 1 fun a_1 =>
 Lift.load (Value.int .i64) a_1 h0u2 fun v_1 =>
 iteB (v != v_1) (
 Q false h0u2
 ) (
 Let (IntKind.wrap .i64 (s0u1 + 1) : Int) fun i =>
 K0u1 i h0u2
 )
 ) (
 loop (fun (s0u2 : Int) h0u3 (K0u2 : Int → Heap → Prop) =>
 iteB (decide (s0u2 < ((s0.2.1.len : Nat) : Int))) (
 idxS s0.2.1 s0u2 4 fun a_2 =>
 loadS C_bool_sl_sl_sl 4 a_2 h0u3 fun v_2 =>
 idxS t0.2.1 s0u2 4 fun a_3 =>
 loadS C_bool_sl_sl_sl 4 a_3 h0u3 fun v_3 =>
 ref12uSame (v_2.1, v_2.2.1, v_2.2.2.1, v_2.2.2.2) (v_3.1, v_3.2.1, v_3.2.2.1, v_3.2.2.2) h0u3 fun v_4 h0u4 =>
 iteB (!v_4) (
 Q false h0u4
 ) (
 Let (IntKind.wrap .i64 (s0u2 + 1) : Int) fun i_1 =>
 K0u2 i_1 h0u4
 )
 ) (
 loop (fun (s0u3 : Int) h0u5 (K0u3 : Int → Heap → Prop) =>
 iteB (decide (s0u3 < ((s0.2.2.1.len : Nat) : Int))) (
 idxS s0.2.2.1 s0u3 6 fun a_4 =>
 loadS C_bool_sl_sl_bool_sl_sl 6 a_4 h0u5 fun v_5 =>
 idxS t0.2.2.1 s0u3 6 fun a_5 =>
 loadS C_bool_sl_sl_bool_sl_sl 6 a_5 h0u5 fun v_6 =>
 ref03uSame (v_5.1, v_5.2.1, v_5.2.2.1, v_5.2.2.2.1, v_5.2.2.2.2.1, v_5.2.2.2.2.2) (v_6.1, v_6.2.1, v_6.2.2.1, v_6.2.2.2.1, v_6.2.2.2.2.1, v_6.2.2.2.2.2) h0u5 fun v_7 h0u6 =>
 iteB (!v_7) (
 Q false h0u6
 ) (
 Let (IntKind.wrap .i64 (s0u3 + 1) : Int) fun i_2 =>
 K0u3 i_2 h0u6
 )
 ) (
 loop (fun (s0u4 : Int) h0u7 (K0u4 : Int → Heap → Prop) =>
 iteB (decide (s0u4 < ((s0.2.2.2.1.len : Nat) : Int))) (
 seq (fun (K0u5 : Bool → Heap → Prop) =>
 idxS s0.2.2.2.1 s0u4 7 fun a_6 =>
 Lift.load (Value.int .i64) (a_6.add 0) h0u7 fun v_8 =>
 idxS t0.2.2.2.1 s0u4 7 fun a_7 =>
 Lift.load (Value.int .i64) (a_7.add 0) h0u7 fun v_9 =>
 iteB (v_8 != v_9) (
 K0u5 true h0u7
 ) (
 idxS s0.2.2.2.1 s0u4 7 fun a_8 =>
 loadS C_bool_sl_sl_bool_sl_sl 6 (a_8.add 1) h0u7 fun v_10 =>
 idxS t0.2.2.2.1 s0u4 7 fun a_9 =>
 loadS C_bool_sl_sl_bool_sl_sl 6 (a_9.add 1) h0u7 fun v_11 =>
 ref03uSame (v_10.1, v_10.2.1, v_10.2.2.1, v_10.2.2.2.1, v_10.2.2.2.2.1, v_10.2.2.2.2.2) (v_11.1, v_11.2.1, v_11.2.2.1, v_11.2.2.2.1, v_11.2.2.2.2.1, v_11.2.2.2.2.2) h0u7 fun v_12 h0u9 =>
 K0u5 (!v_12) h0u9
 )
 ) (fun t0u2 h0u8 =>
 iteB t0u2 (
 Q false h0u8
 ) (
 Let (IntKind.wrap .i64 (s0u4 + 1) : Int) fun i_3 =>
 K0u4 i_3 h0u8
 )
 )
 ) (
 loop (fun (s0u5 : Int) h0u10 (K0u6 : Int → Heap → Prop) =>
 iteB (decide (s0u5 < ((s0.2.2.2.2.len : Nat) : Int))) (
 seq (fun (K0u7 : Bool → Heap → Prop) =>
 idxS s0.2.2.2.2 s0u5 7 fun a_10 =>
 Lift.load (Value.int .i64) (a_10.add 0) h0u10 fun v_13 =>
 idxS t0.2.2.2.2 s0u5 7 fun a_11 =>
 Lift.load (Value.int .i64) (a_11.add 0) h0u10 fun v_14 =>
 iteB (v_13 != v_14) (
 K0u7 true h0u10
 ) (
 idxS s0.2.2.2.2 s0u5 7 fun a_12 =>
 loadS C_bool_sl_sl_bool_sl_sl 6 (a_12.add 1) h0u10 fun v_15 =>
 idxS t0.2.2.2.2 s0u5 7 fun a_13 =>
 loadS C_bool_sl_sl_bool_sl_sl 6 (a_13.add 1) h0u10 fun v_16 =>
 ref03uSame (v_15.1, v_15.2.1, v_15.2.2.1, v_15.2.2.2.1, v_15.2.2.2.2.1, v_15.2.2.2.2.2) (v_16.1, v_16.2.1, v_16.2.2.1, v_16.2.2.2.1, v_16.2.2.2.2.1, v_16.2.2.2.2.2) h0u10 fun v_17 h0u12 =>
 K0u7 (!v_17) h0u12
 )
 ) (fun t0u3 h0u11 =>
 iteB t0u3 (
 Q false h0u11
 ) (
 Let (IntKind.wrap .i64 (s0u5 + 1) : Int) fun i_4 =>
 K0u6 i_4 h0u11
 )
 )
 ) (
 Q true h0u10
 )
 ) 0 h0u7
 )
 ) 0 h0u5
 )
 ) 0 h0u3
 )
 ) 0 h0u2
 )
 ) 0 h0u1
 )
 )
def law14uTableauRight (s0 : Sl × Sl × Sl × Sl × Sl) (t0 : Sl × Sl × Sl × Sl × Sl) (h : Heap) (Q : Bool → Heap → Prop) : Prop :=
 mem h fun h0 =>
 law14uspeaks h0 fun v h0u1 =>
 iteB (!v) (
 Q false h0u1
 ) (
 new [Sl.toV s0.1, Sl.toV s0.2.1, Sl.toV s0.2.2.1, Sl.toV s0.2.2.2.1, Sl.toV s0.2.2.2.2, Sl.toV t0.1, Sl.toV t0.2.1, Sl.toV t0.2.2.1, Sl.toV t0.2.2.2.1, Sl.toV t0.2.2.2.2] h0u1 fun a h0u2 =>
 loop (fun (s0u1 : Int) h0u3 (K0 : Int → Heap → Prop) =>
 iteB (decide (s0u1 < (((⟨some a, 2, 2⟩ : Sl).len : Nat) : Int))) (
 idxS (⟨some a, 2, 2⟩ : Sl) s0u1 5 fun a_1 =>
 loadS C_sl_sl_sl_sl_sl 5 a_1 h0u3 fun v_2 =>
 mem h0u3 fun h0u4 =>
 seq (fun (K0u1 : Bool → Heap → Prop) =>
 iteB (decide (((v_2.2.1.len : Nat) : Int) > 6)) (
 K0u1 true h0u4
 ) (
 iteB (decide (((v_2.2.2.1.len : Nat) : Int) > 20)) (
 K0u1 true h0u4
 ) (
 iteB (decide (((v_2.1.len : Nat) : Int) > 20)) (
 K0u1 true h0u4
 ) (
 iteB (decide (((v_2.2.2.2.1.len : Nat) : Int) > 20)) (
 K0u1 true h0u4
 ) (
 K0u1 (decide (((v_2.2.2.2.2.len : Nat) : Int) > 20)) h0u4
 )
 )
 )
 )
 ) (fun t0u1 h0u5 =>
 iteB t0u1 (
 Q true h0u5
 ) (
 loop (fun (s0u2 : Int) h0u6 (K0u2 : Int → Heap → Prop) =>
 iteB (decide (s0u2 < ((v_2.2.1.len : Nat) : Int))) (
 idxS v_2.2.1 s0u2 4 fun a_2 =>
 loadS C_bool_sl_sl_sl 4 a_2 h0u6 fun v_3 =>
 mem h0u6 fun h0u7 =>
 seq (fun (K0u3 : Bool → Heap → Prop) =>
 iteB (decide (((v_3.2.2.2.len : Nat) : Int) > 12)) (
 K0u3 true h0u7
 ) (
 new [Value.bool v_3.1, Sl.toV v_3.2.1, Sl.toV v_3.2.2.1, Sl.toV v_3.2.2.2] h0u7 fun a_3 h0u9 =>
 law12uOdd (⟨some a_3, 1, 1⟩ : Sl) h0u9 fun v_5 h0u10 =>
 K0u3 v_5 h0u10
 )
 ) (fun t0u2 h0u8 =>
 iteB t0u2 (
 Q true h0u8
 ) (
 K0u2 (IntKind.wrap .i64 (s0u2 + 1)) h0u8
 )
 )
 ) (
 loop (fun (s0u3 : Int) h0u11 (K0u4 : Int → Heap → Prop) =>
 iteB (decide (s0u3 < ((v_2.2.2.1.len : Nat) : Int))) (
 idxS v_2.2.2.1 s0u3 6 fun a_4 =>
 loadS C_bool_sl_sl_bool_sl_sl 6 a_4 h0u11 fun v_6 =>
 mem h0u11 fun h0u12 =>
 new [Value.bool v_6.1, Sl.toV v_6.2.1, Sl.toV v_6.2.2.1, Value.bool v_6.2.2.2.1, Sl.toV v_6.2.2.2.2.1, Sl.toV v_6.2.2.2.2.2] h0u12 fun a_5 h0u13 =>
 law03uOdd (⟨some a_5, 1, 1⟩ : Sl) h0u13 fun v_8 h0u14 =>
 iteB v_8 (
 Q true h0u14
 ) (
 K0u4 (IntKind.wrap .i64 (s0u3 + 1)) h0u14
 )
 ) (
 new [] h0u11 fun a_6 h0u15 =>
 appendS 7 120 (⟨some a_6, 0, 0⟩ : Sl) v_2.2.2.2.1 h0u15 fun v_10 h0u16 =>
 appendS 7 120 v_10 v_2.2.2.2.2 h0u16 fun v_11 h0u17 =>
 loop (fun (s0u4 : Int) h0u18 (K0u5 : Int → Heap → Prop) =>
 iteB (decide (s0u4 < ((v_11.len : Nat) : Int))) (
 idxS v_11 s0u4 7 fun a_7 =>
 loadS C_i64ubool_sl_sl_bool_sl_sl 7 a_7 h0u18 fun v_12 =>
 mem h0u18 fun h0u19 =>
 new [Value.bool v_12.2.1, Sl.toV v_12.2.2.1, Sl.toV v_12.2.2.2.1, Value.bool v_12.2.2.2.2.1, Sl.toV v_12.2.2.2.2.2.1, Sl.toV v_12.2.2.2.2.2.2] h0u19 fun a_8 h0u20 =>
 law03uOdd (⟨some a_8, 1, 1⟩ : Sl) h0u20 fun v_14 h0u21 =>
 iteB v_14 (
 Q true h0u21
 ) (
 K0u5 (IntKind.wrap .i64 (s0u4 + 1)) h0u21
 )
 ) (
 K0 (IntKind.wrap .i64 (s0u1 + 1)) h0u18
 )
 ) 0 h0u17
 )
 ) 0 h0u6
 )
 ) 0 h0u5
 )
 )
 ) (
 seq (fun (K0u6 : Bool → Heap → Prop) =>
 tableau_Right (s0.1, s0.2.1, s0.2.2.1, s0.2.2.2.1, s0.2.2.2.2) h0u3 fun v_15 h0u23 =>
 ref14uRight (s0.1, s0.2.1, s0.2.2.1, s0.2.2.2.1, s0.2.2.2.2) h0u23 fun v_16 h0u24 =>
 iteB (v_15 == v_16) (
 tableau_Right (t0.1, t0.2.1, t0.2.2.1, t0.2.2.2.1, t0.2.2.2.2) h0u24 fun v_17 h0u25 =>
 ref14uRight (t0.1, t0.2.1, t0.2.2.1, t0.2.2.2.1, t0.2.2.2.2) h0u25 fun v_18 h0u26 =>
 iteB (v_17 == v_18) (
 tableau_Same (s0.1, s0.2.1, s0.2.2.1, s0.2.2.2.1, s0.2.2.2.2) (t0.1, t0.2.1, t0.2.2.1, t0.2.2.2.1, t0.2.2.2.2) h0u26 fun v_19 h0u27 =>
 ref14uSame (s0.1, s0.2.1, s0.2.2.1, s0.2.2.2.1, s0.2.2.2.2) (t0.1, t0.2.1, t0.2.2.1, t0.2.2.2.1, t0.2.2.2.2) h0u27 fun v_20 h0u28 =>
 iteB (v_19 == v_20) (
 tableau_Same (s0.1, s0.2.1, s0.2.2.1, s0.2.2.2.1, s0.2.2.2.2) (s0.1, s0.2.1, s0.2.2.1, s0.2.2.2.1, s0.2.2.2.2) h0u28 fun v_21 h0u29 =>
 K0u6 v_21 h0u29
 ) (
 K0u6 false h0u28
 )
 ) (
 K0u6 false h0u26
 )
 ) (
 K0u6 false h0u24
 )
 ) (fun t0u3 h0u22 =>
 Q t0u3 h0u22
 )
 )
 ) 0 h0u2
 )
end Go.Sh

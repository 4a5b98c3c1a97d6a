/-
  Laws that the proof of this claim's statement leans on, each proved under the conditions that it states.
-/
import Derived.Test.YtjppcjbmepcneaaGreatDoorFwC
set_option linter.unusedVariables false
set_option linter.unusedSimpArgs false
namespace Go.Sh
open Go Go.Lift
def C_bool_i64ui64ubool_sl_sl_bool_sl_sl (x : Bool × Int × Int × Bool × Sl × Sl × Bool × Sl × Sl) : List Value := [Value.bool x.1, Value.int .i64 x.2.1, Value.int .i64 x.2.2.1, Value.bool x.2.2.2.1, Sl.toV x.2.2.2.2.1, Sl.toV x.2.2.2.2.2.1, Value.bool x.2.2.2.2.2.2.1, Sl.toV x.2.2.2.2.2.2.2.1, Sl.toV x.2.2.2.2.2.2.2.2]
def C_bool_sl (x : Bool × Sl) : List Value := [Value.bool x.1, Sl.toV x.2]
def C_bool_sl_sl (x : Bool × Sl × Sl) : List Value := [Value.bool x.1, Sl.toV x.2.1, Sl.toV x.2.2]
def C_bool_sl_sl_bool_sl_sl (x : Bool × Sl × Sl × Bool × Sl × Sl) : List Value := [Value.bool x.1, Sl.toV x.2.1, Sl.toV x.2.2.1, Value.bool x.2.2.2.1, Sl.toV x.2.2.2.2.1, Sl.toV x.2.2.2.2.2]
def C_bool_sl_sl_sl (x : Bool × Sl × Sl × Sl) : List Value := [Value.bool x.1, Sl.toV x.2.1, Sl.toV x.2.2.1, Sl.toV x.2.2.2]
def C_i64ubool_sl_sl (x : Int × Bool × Sl × Sl) : List Value := [Value.int .i64 x.1, Value.bool x.2.1, Sl.toV x.2.2.1, Sl.toV x.2.2.2]
def C_i64ubool_sl_sl_bool_sl_sl (x : Int × Bool × Sl × Sl × Bool × Sl × Sl) : List Value := [Value.int .i64 x.1, Value.bool x.2.1, Sl.toV x.2.2.1, Sl.toV x.2.2.2.1, Value.bool x.2.2.2.2.1, Sl.toV x.2.2.2.2.2.1, Sl.toV x.2.2.2.2.2.2]
def C_i64ui64usl_sl_sl_sl_sl (x : Int × Int × Sl × Sl × Sl × Sl × Sl) : List Value := [Value.int .i64 x.1, Value.int .i64 x.2.1, Sl.toV x.2.2.1, Sl.toV x.2.2.2.1, Sl.toV x.2.2.2.2.1, Sl.toV x.2.2.2.2.2.1, Sl.toV x.2.2.2.2.2.2]
def C_sl_sl_sl_sl_sl (x : Sl × Sl × Sl × Sl × Sl) : List Value := [Sl.toV x.1, Sl.toV x.2.1, Sl.toV x.2.2.1, Sl.toV x.2.2.2.1, Sl.toV x.2.2.2.2]
abbrev g_math_bits_deBruijn32tab : Nat := 0
def nat_trim (x0 : Sl) (h : Heap) (Q : Sl → Heap → Prop) : Prop :=
 loop (fun (s0 : Sl) h0 (K0 : Sl → Heap → Prop) =>
 seq (fun (K0u1 : Bool → Heap → Prop) =>
 iteB (decide ((s0.len : Int) > 0)) (
 idxS s0 (IntKind.wrap .i64 ((s0.len : Int) - 1)) 1 fun a =>
 Lift.load (Value.int .u32) a h0 fun v =>
 K0u1 (v == 0) h0
 ) (
 K0u1 false h0
 )
 ) (fun t0 h1 =>
 iteB t0 (
 sliceOf s0 none (some (IntKind.wrap .i64 ((s0.len : Int) - 1))) none 1 fun v_1 =>
 K0 v_1 h1
 ) (
 Q s0 h1
 )
 )
 ) x0 h
def nat_Of (n : Int) (h : Heap) (Q : Sl → Heap → Prop) : Prop :=
 new [Value.int .u32 (IntKind.wrap .u32 n), Value.int .u32 (IntKind.wrap .u32 (Int.fdiv n (2 ^ (min (Int.toNat 32) (IntKind.bits .u64)))))] h fun a h0 =>
 nat_trim (⟨some a, 2, 2⟩ : Sl) h0 fun v_1 h1 =>
 Q v_1 h1
def ratio_Of (n : Int) (h : Heap) (Q : (Bool × Sl × Sl) → Heap → Prop) : Prop :=
 mem h fun h0 =>
 Let (IntKind.wrap .u64 n : Int) fun size =>
 seq (fun (K0 : Int → Heap → Prop) =>
 iteB (decide (n < 0)) (
 Let (IntKind.wrap .u64 (0 - size) : Int) fun size_1 =>
 K0 size_1 h0
 ) (
 K0 size h0
 )
 ) (fun t0 h1 =>
 nat_Of t0 h1 fun v h2 =>
 Q (decide (n < 0), v, Sl.nil) h2
 )
def law14uone (h : Heap) (Q : (Int × Int × Sl × Sl × Sl × Sl × Sl) → Heap → Prop) : Prop :=
 mem h fun h0 =>
 ratio_Of 1 h0 fun v h1 =>
 ratio_Of 1 h1 fun v_1 h2 =>
 new [Value.int .i64 0, Value.bool v.1, Sl.toV v.2.1, Sl.toV v.2.2, Value.int .i64 1, Value.bool v_1.1, Sl.toV v_1.2.1, Sl.toV v_1.2.2] h2 fun a h3 =>
 new [Value.bool false, Sl.toV Sl.nil, Sl.toV Sl.nil, Sl.toV (⟨some a, 2, 2⟩ : Sl)] h3 fun a_1 h4 =>
 Q (0, 2, (⟨some a_1, 1, 1⟩ : Sl), Sl.nil, Sl.nil, Sl.nil, Sl.nil) h4
def slices_Clone_api_Poly_api_Poly (s0 : Sl) (h : Heap) (Q : Sl → Heap → Prop) : Prop :=
 iteB s0.a.isNone (
 Q Sl.nil h
 ) (
 new [] h fun a h0 =>
 appendS 4 80 (⟨some a, 0, 0⟩ : Sl) s0 h0 fun v_1 h1 =>
 Q v_1 h1
 )
def tableau_New (p : Int × Int × Sl × Sl × Sl × Sl × Sl) (h : Heap) (Q : (Sl × Sl × Sl × Sl × Sl) → Heap → Prop) : Prop :=
 mem h fun h0 =>
 Let (IntKind.wrap .i64 (p.2.1 + (p.2.2.1.len : Int)) : Int) fun n =>
 loop (fun (s0 : Int × Sl × Sl × Sl × Sl × Sl) h1 (K0 : (Int × Sl × Sl × Sl × Sl × Sl) → Heap → Prop) =>
 iteB (decide (s0.1 < (p.2.2.1.len : Int))) (
 new [Value.int .i64 (IntKind.wrap .i64 (p.2.1 + s0.1))] h1 fun a h2 =>
 appendS 1 8 s0.2.1 (⟨some a, 1, 1⟩ : Sl) h2 fun v_1 h3 =>
 K0 (IntKind.wrap .i64 (s0.1 + 1), v_1, s0.2.2.1, s0.2.2.2.1, s0.2.2.2.2.1, s0.2.2.2.2.2) h3
 ) (
 slices_Clone_api_Poly_api_Poly p.2.2.1 h1 fun v_2 h4 =>
 seq (fun (K0u1 : (Sl × Sl × Sl × Sl × Sl) → Heap → Prop) =>
 (
 mkS [Value.bool false, Sl.toV Sl.nil, Sl.toV Sl.nil, Value.bool false, Sl.toV Sl.nil, Sl.toV Sl.nil] 112 n n h4 fun v_3 h6 =>
 (
 mkS [Value.int .i64 0, Value.bool false, Sl.toV Sl.nil, Sl.toV Sl.nil, Value.bool false, Sl.toV Sl.nil, Sl.toV Sl.nil] 120 n n h6 fun v_11 h14 =>
 mkS [Value.int .i64 0, Value.bool false, Sl.toV Sl.nil, Sl.toV Sl.nil, Value.bool false, Sl.toV Sl.nil, Sl.toV Sl.nil] 120 n n h14 fun v_13 h16 =>
 K0u1 (s0.2.1, v_2, v_3, v_11, v_13) h16
 ) ∧ (
 mkS [Value.int .i64 0, Value.bool false, Sl.toV Sl.nil, Sl.toV Sl.nil, Value.bool false, Sl.toV Sl.nil, Sl.toV Sl.nil] 120 n n h6 fun v_14 h17 =>
 mkS [Value.int .i64 0, Value.bool false, Sl.toV Sl.nil, Sl.toV Sl.nil, Value.bool false, Sl.toV Sl.nil, Sl.toV Sl.nil] 120 n n h17 fun v_15 h18 =>
 K0u1 (s0.2.1, v_2, v_3, v_15, v_14) h18
 )
 ) ∧ (
 mkS [Value.int .i64 0, Value.bool false, Sl.toV Sl.nil, Sl.toV Sl.nil, Value.bool false, Sl.toV Sl.nil, Sl.toV Sl.nil] 120 n n h4 fun v_16 h19 =>
 (
 mkS [Value.bool false, Sl.toV Sl.nil, Sl.toV Sl.nil, Value.bool false, Sl.toV Sl.nil, Sl.toV Sl.nil] 112 n n h19 fun v_17 h20 =>
 mkS [Value.int .i64 0, Value.bool false, Sl.toV Sl.nil, Sl.toV Sl.nil, Value.bool false, Sl.toV Sl.nil, Sl.toV Sl.nil] 120 n n h20 fun v_20 h23 =>
 K0u1 (s0.2.1, v_2, v_17, v_16, v_20) h23
 ) ∧ (
 mkS [Value.int .i64 0, Value.bool false, Sl.toV Sl.nil, Sl.toV Sl.nil, Value.bool false, Sl.toV Sl.nil, Sl.toV Sl.nil] 120 n n h19 fun v_21 h24 =>
 mkS [Value.bool false, Sl.toV Sl.nil, Sl.toV Sl.nil, Value.bool false, Sl.toV Sl.nil, Sl.toV Sl.nil] 112 n n h24 fun v_22 h25 =>
 K0u1 (s0.2.1, v_2, v_22, v_16, v_21) h25
 )
 ) ∧ (
 mkS [Value.int .i64 0, Value.bool false, Sl.toV Sl.nil, Sl.toV Sl.nil, Value.bool false, Sl.toV Sl.nil, Sl.toV Sl.nil] 120 n n h4 fun v_23 h26 =>
 (
 mkS [Value.bool false, Sl.toV Sl.nil, Sl.toV Sl.nil, Value.bool false, Sl.toV Sl.nil, Sl.toV Sl.nil] 112 n n h26 fun v_24 h27 =>
 mkS [Value.int .i64 0, Value.bool false, Sl.toV Sl.nil, Sl.toV Sl.nil, Value.bool false, Sl.toV Sl.nil, Sl.toV Sl.nil] 120 n n h27 fun v_26 h29 =>
 K0u1 (s0.2.1, v_2, v_24, v_26, v_23) h29
 ) ∧ (
 mkS [Value.int .i64 0, Value.bool false, Sl.toV Sl.nil, Sl.toV Sl.nil, Value.bool false, Sl.toV Sl.nil, Sl.toV Sl.nil] 120 n n h26 fun v_27 h30 =>
 mkS [Value.bool false, Sl.toV Sl.nil, Sl.toV Sl.nil, Value.bool false, Sl.toV Sl.nil, Sl.toV Sl.nil] 112 n n h30 fun v_28 h31 =>
 K0u1 (s0.2.1, v_2, v_28, v_27, v_23) h31
 )
 )
 ) (fun t0 h5 =>
 Q t0 h5
 )
 )
 ) (0, Sl.nil, Sl.nil, Sl.nil, Sl.nil, Sl.nil) h0
def nat_New (limbs : Int) (h : Heap) (Q : ((Option Addr)) → Heap → Prop) : Prop :=
 new [Value.int .i64 (if 1 > limbs then 1 else limbs), Value.bool false] h fun a h0 =>
 Q (some a) h0
def tableau_coef_c1 (m0 : Int × Bool × Sl × Sl) (v : Int) (h : Heap) (Q : Int → Heap → Prop) : Prop :=
 mem h fun h0 =>
 Q (IntKind.wrap .i64 (m0.1 - v)) h0
def slices_BinarySearchFunc_api_Mono_api_Mono_int__tableau_coef_c1 (x0 : Sl) (target : Int) (h : Heap) (Q : (Int × Bool) → Heap → Prop) : Prop :=
 Let ((x0.len : Int) : Int) fun n =>
 loop (fun (s0 : Int × Int) h0 (K0 : (Int × Int) → Heap → Prop) =>
 iteB (decide (s0.1 < s0.2)) (
 Let (IntKind.wrap .i64 (Int.fdiv (IntKind.wrap .u64 (IntKind.wrap .i64 (s0.1 + s0.2))) (2 ^ (min (Int.toNat 1) (IntKind.bits .u64)))) : Int) fun h1 =>
 idxS x0 h1 4 fun a =>
 loadS C_i64ubool_sl_sl 4 a h0 fun v =>
 tableau_coef_c1 v target h0 fun v_1 h2 =>
 iteB (decide (v_1 < 0)) (
 Let (IntKind.wrap .i64 (h1 + 1) : Int) fun i =>
 K0 (i, s0.2) h2
 ) (
 K0 (s0.1, h1) h2
 )
 ) (
 seq (fun (K0u1 : (Int × Bool) → Heap → Prop) =>
 iteB (decide (s0.1 < n)) (
 idxS x0 s0.1 4 fun a_1 =>
 loadS C_i64ubool_sl_sl 4 a_1 h0 fun v_2 =>
 tableau_coef_c1 v_2 target h0 fun v_3 h4 =>
 K0u1 (s0.1, (v_3 == 0)) h4
 ) (
 K0u1 (s0.1, false) h0
 )
 ) (fun t0 h3 =>
 Q t0 h3
 )
 )
 ) (0, n) h
def tableau_coef (p : Bool × Sl × Sl × Sl) (v : Int) (h : Heap) (Q : (Bool × Sl × Sl) → Heap → Prop) : Prop :=
 mem h fun h0 =>
 slices_BinarySearchFunc_api_Mono_api_Mono_int__tableau_coef_c1 p.2.2.2 v h0 fun v_1 h1 =>
 iteB (!v_1.2) (
 Q (false, Sl.nil, Sl.nil) h1
 ) (
 idxS p.2.2.2 v_1.1 4 fun a =>
 loadS C_bool_sl_sl 3 (a.add 1) h1 fun v_2 =>
 Q v_2 h1
 )
def ratio_Sign (x0 : Bool × Sl × Sl) (h : Heap) (Q : Int → Heap → Prop) : Prop :=
 mem h fun h0 =>
 iteB ((x0.2.1.len : Int) == 0) (
 Q 0 h0
 ) (
 iteB x0.1 (
 Q (-1) h0
 ) (
 Q 1 h0
 )
 )
def ratio_free (h : Heap) (Q : ((Option Addr)) → Heap → Prop) : Prop :=
 nat_New 16777216 h fun v h0 =>
 Q v h0
def ratio_one (h : Heap) (Q : Sl → Heap → Prop) : Prop :=
 new [Value.int .u32 1] h fun a h0 =>
 Q (⟨some a, 1, 1⟩ : Sl) h0
def ratio_den (x0 : Bool × Sl × Sl) (h : Heap) (Q : Sl → Heap → Prop) : Prop :=
 mem h fun h0 =>
 iteB ((x0.2.2.len : Int) == 0) (
 ratio_one h0 fun v h1 =>
 Q v h1
 ) (
 Q x0.2.2 h0
 )
def nat_times (x0 : Sl) (y : Sl) (h : Heap) (Q : Sl → Heap → Prop) : Prop :=
 Let (IntKind.wrap .i64 ((x0.len : Int) + (y.len : Int)) : Int) fun t15 =>
 mkS [Value.int .u32 0] 4 t15 t15 h fun v h0 =>
 loop (fun (s0 : Int) h1 (K0 : Int → Heap → Prop) =>
 iteB (decide (s0 < (x0.len : Int))) (
 idxS x0 s0 1 fun a =>
 Lift.load (Value.int .u32) a h1 fun v_1 =>
 loop (fun (s0u1 : Int × Int) h2 (K0u1 : (Int × Int) → Heap → Prop) =>
 iteB (decide (s0u1.2 < (y.len : Int))) (
 idxS y s0u1.2 1 fun a_1 =>
 Lift.load (Value.int .u32) a_1 h2 fun v_2 =>
 idxS v (IntKind.wrap .i64 (s0 + s0u1.2)) 1 fun a_2 =>
 Lift.load (Value.int .u32) a_2 h2 fun v_3 =>
 Let (IntKind.wrap .u64 (s0u1.1 + (IntKind.wrap .u64 ((IntKind.wrap .u64 ((IntKind.wrap .u64 v_1) * (IntKind.wrap .u64 v_2))) + (IntKind.wrap .u64 v_3)))) : Int) fun carry =>
 idxS v (IntKind.wrap .i64 (s0 + s0u1.2)) 1 fun a_3 =>
 Lift.store a_3 (Value.int .u32 (IntKind.wrap .u32 carry)) h2 fun h3 =>
 Let (Int.fdiv carry (2 ^ (min (Int.toNat 32) (IntKind.bits .u64))) : Int) fun carry_1 =>
 K0u1 (carry_1, IntKind.wrap .i64 (s0u1.2 + 1)) h3
 ) (
 idxS v (IntKind.wrap .i64 (s0 + (y.len : Int))) 1 fun a_4 =>
 Lift.store a_4 (Value.int .u32 (IntKind.wrap .u32 s0u1.1)) h2 fun h4 =>
 K0 (IntKind.wrap .i64 (s0 + 1)) h4
 )
 ) (0, 0) h1
 ) (
 Q v h1
 )
 ) 0 h0
def slices_Clone_api_Nat_uint32 (s0 : Sl) (h : Heap) (Q : Sl → Heap → Prop) : Prop :=
 iteB s0.a.isNone (
 Q Sl.nil h
 ) (
 new [] h fun a h0 =>
 appendS 1 4 (⟨some a, 0, 0⟩ : Sl) s0 h0 fun v_1 h1 =>
 Q v_1 h1
 )
def nat_Bench_fit (b : (Option Addr)) (x0 : Sl) (h : Heap) (Q : Sl → Heap → Prop) : Prop :=
 nat_trim x0 h fun v h0 =>
 seq (fun (K0 : Unit → Heap → Prop) =>
 nilChk b fun a =>
 Lift.load Value.bool (a.add 1) h0 fun v_1 =>
 iteB v_1 (
 nilChk b fun a_1 =>
 Lift.store (a_1.add 1) (Value.bool true) h0 fun h2 =>
 K0 () h2
 ) (
 nilChk b fun a_2 =>
 Lift.load (Value.int .i64) (a_2.add 0) h0 fun v_2 =>
 nilChk b fun a_3 =>
 Lift.store (a_3.add 1) (Value.bool (decide ((v.len : Int) > v_2))) h0 fun h3 =>
 K0 () h3
 )
 ) (fun t0 h1 =>
 nilChk b fun a_4 =>
 Lift.load Value.bool (a_4.add 1) h1 fun v_3 =>
 iteB v_3 (
 Q Sl.nil h1
 ) (
 slices_Clone_api_Nat_uint32 v h1 fun v_4 h4 =>
 Q v_4 h4
 )
 )
def nat_Bench_Mul (b : (Option Addr)) (x0 : Sl) (y : Sl) (h : Heap) (Q : Sl → Heap → Prop) : Prop :=
 nat_trim x0 h fun v h0 =>
 nat_trim y h0 fun v_1 h1 =>
 nat_times v v_1 h1 fun v_2 h2 =>
 nat_Bench_fit b v_2 h2 fun v_3 h3 =>
 Q v_3 h3
def nat_small (x0 : Sl) (h : Heap) (Q : (Int × Bool) → Heap → Prop) : Prop :=
 nat_trim x0 h fun v h0 =>
 Let (IntKind.wrap .i64 ((v.len : Int) - 1) : Int) fun i =>
 loop (fun (s0 : Int × Int) h1 (K0 : (Int × Int) → Heap → Prop) =>
 iteB (decide (s0.2 ≥ 0)) (
 idxS v s0.2 1 fun a =>
 Lift.load (Value.int .u32) a h1 fun v_1 =>
 Let (IntKind.wrap .u64 (((BitVec.ofInt (IntKind.bits .u64) (IntKind.wrap .u64 (s0.1 * 2 ^ (min (Int.toNat 32) (IntKind.bits .u64)))) ||| BitVec.ofInt (IntKind.bits .u64) (IntKind.wrap .u64 v_1)).toNat : Int)) : Int) fun n =>
 Let (IntKind.wrap .i64 (s0.2 - 1) : Int) fun i_1 =>
 K0 (n, i_1) h1
 ) (
 Let (decide ((v.len : Int) ≤ 2) : Bool) fun ok =>
 Q (s0.1, ok) h1
 )
 ) (0, i) h0
def math_bits_TrailingZeros32 (x0 : Int) (h : Heap) (Q : Int → Heap → Prop) : Prop :=
 iteB (x0 == 0) (
 Q 32 h
 ) (
 ((0 : Int) ≤ ((Int.fdiv (IntKind.wrap .u32 ((IntKind.wrap .u32 (((BitVec.ofInt (IntKind.bits .u32) x0 &&& BitVec.ofInt (IntKind.bits .u32) (IntKind.wrap .u32 (0 - x0))).toNat : Int))) * 125613361)) (2 ^ (min (Int.toNat 27) (IntKind.bits .u32)))) : Int) ∧ ((Int.fdiv (IntKind.wrap .u32 ((IntKind.wrap .u32 (((BitVec.ofInt (IntKind.bits .u32) x0 &&& BitVec.ofInt (IntKind.bits .u32) (IntKind.wrap .u32 (0 - x0))).toNat : Int))) * 125613361)) (2 ^ (min (Int.toNat 27) (IntKind.bits .u32)))) : Int) < 32) ∧
 Lift.load (Value.int .u8) ((⟨g_math_bits_deBruijn32tab, 0, none⟩ : Addr).add (Int.toNat (Int.fdiv (IntKind.wrap .u32 ((IntKind.wrap .u32 (((BitVec.ofInt (IntKind.bits .u32) x0 &&& BitVec.ofInt (IntKind.bits .u32) (IntKind.wrap .u32 (0 - x0))).toNat : Int))) * 125613361)) (2 ^ (min (Int.toNat 27) (IntKind.bits .u32)))) * 1)) h fun v =>
 Q (IntKind.wrap .i64 v) h
 )
def nat_halve (x0 : Sl) (h : Heap) (Q : (Sl × Int) → Heap → Prop) : Prop :=
 loop (fun (s0 : Int) h0 (K0 : Int → Heap → Prop) =>
 idxS x0 (IntKind.wrap .i64 (Int.tdiv s0 32)) 1 fun a =>
 Lift.load (Value.int .u32) a h0 fun v =>
 iteB (v == 0) (
 Let (IntKind.wrap .i64 (s0 + 32) : Int) fun k =>
 K0 k h0
 ) (
 idxS x0 (IntKind.wrap .i64 (Int.tdiv s0 32)) 1 fun a_1 =>
 Lift.load (Value.int .u32) a_1 h0 fun v_1 =>
 math_bits_TrailingZeros32 v_1 h0 fun v_2 h1 =>
 Let (IntKind.wrap .i64 (s0 + v_2) : Int) fun k_1 =>
 sliceOf x0 (some (IntKind.wrap .i64 (Int.tdiv k_1 32))) none none 1 fun v_3 =>
 slices_Clone_api_Nat_uint32 v_3 h1 fun v_4 h2 =>
 seq (fun (K0u1 : Unit → Heap → Prop) =>
 Let (Int.tmod k_1 32 : Int) fun s0u1 =>
 iteB (decide (s0u1 > 0)) (
 loop (fun (s0u2 : Int) h4 (K0u2 : Int → Heap → Prop) =>
 iteB (decide (s0u2 < (v_4.len : Int))) (
 seq (fun (K0u3 : Unit → Heap → Prop) =>
 idxS v_4 s0u2 1 fun a_2 =>
 Lift.load (Value.int .u32) a_2 h4 fun v_5 =>
 (0 ≤ s0u1) ∧
 idxS v_4 s0u2 1 fun a_3 =>
 Lift.store a_3 (Value.int .u32 (Int.fdiv v_5 (2 ^ (min (Int.toNat s0u1) (IntKind.bits .u32))))) h4 fun h6 =>
 iteB (decide ((IntKind.wrap .i64 (s0u2 + 1)) < (v_4.len : Int))) (
 idxS v_4 s0u2 1 fun a_4 =>
 Lift.load (Value.int .u32) a_4 h6 fun v_6 =>
 idxS v_4 (IntKind.wrap .i64 (s0u2 + 1)) 1 fun a_5 =>
 Lift.load (Value.int .u32) a_5 h6 fun v_7 =>
 (0 ≤ (IntKind.wrap .i64 (32 - s0u1))) ∧
 idxS v_4 s0u2 1 fun a_6 =>
 Lift.store a_6 (Value.int .u32 (IntKind.wrap .u32 (((BitVec.ofInt (IntKind.bits .u32) v_6 ||| BitVec.ofInt (IntKind.bits .u32) (IntKind.wrap .u32 (v_7 * 2 ^ (min (Int.toNat (IntKind.wrap .i64 (32 - s0u1))) (IntKind.bits .u32))))).toNat : Int)))) h6 fun h7 =>
 K0u3 () h7
 ) (
 K0u3 () h6
 )
 ) (fun t0u1 h5 =>
 K0u2 (IntKind.wrap .i64 (s0u2 + 1)) h5
 )
 ) (
 K0u1 () h4
 )
 ) 0 h2
 ) (
 K0u1 () h2
 )
 ) (fun t0 h3 =>
 nat_trim v_4 h3 fun v_8 h8 =>
 Q (v_8, k_1) h8
 )
 )
 ) 0 h
def nat_sign (n : Int) (h : Heap) (Q : Int → Heap → Prop) : Prop :=
 Q (if (-1) > (if 1 < n then 1 else n) then (-1) else (if 1 < n then 1 else n)) h
def nat_Cmp (x0 : Sl) (y : Sl) (h : Heap) (Q : Int → Heap → Prop) : Prop :=
 nat_trim x0 h fun v h0 =>
 nat_trim y h0 fun v_1 h1 =>
 iteB ((v.len : Int) != (v_1.len : Int)) (
 nat_sign (IntKind.wrap .i64 ((v.len : Int) - (v_1.len : Int))) h1 fun v_2 h2 =>
 Q v_2 h2
 ) (
 Let (IntKind.wrap .i64 ((v.len : Int) - 1) : Int) fun i =>
 loop (fun (s0 : Int) h3 (K0 : Int → Heap → Prop) =>
 iteB (decide (s0 ≥ 0)) (
 idxS v s0 1 fun a =>
 Lift.load (Value.int .u32) a h3 fun v_3 =>
 idxS v_1 s0 1 fun a_1 =>
 Lift.load (Value.int .u32) a_1 h3 fun v_4 =>
 iteB (v_3 != v_4) (
 idxS v s0 1 fun a_2 =>
 Lift.load (Value.int .u32) a_2 h3 fun v_5 =>
 idxS v_1 s0 1 fun a_3 =>
 Lift.load (Value.int .u32) a_3 h3 fun v_6 =>
 nat_sign (IntKind.wrap .i64 ((IntKind.wrap .i64 v_5) - (IntKind.wrap .i64 v_6))) h3 fun v_7 h4 =>
 Q v_7 h4
 ) (
 Let (IntKind.wrap .i64 (s0 - 1) : Int) fun i_1 =>
 K0 i_1 h3
 )
 ) (
 Q 0 h3
 )
 ) i h1
 )
def nat_minus (x0 : Sl) (y : Sl) (h : Heap) (Q : Sl → Heap → Prop) : Prop :=
 loop (fun (s0 : Sl × Int × Int) h0 (K0 : (Sl × Int × Int) → Heap → Prop) =>
 iteB (decide (s0.2.2 < (x0.len : Int))) (
 idxS x0 s0.2.2 1 fun a =>
 Lift.load (Value.int .u32) a h0 fun v =>
 Let (IntKind.wrap .u64 ((IntKind.wrap .u64 v) - s0.2.1) : Int) fun d =>
 seq (fun (K0u1 : Int → Heap → Prop) =>
 iteB (decide (s0.2.2 < (y.len : Int))) (
 idxS y s0.2.2 1 fun a_1 =>
 Lift.load (Value.int .u32) a_1 h0 fun v_1 =>
 Let (IntKind.wrap .u64 (d - (IntKind.wrap .u64 v_1)) : Int) fun d_1 =>
 K0u1 d_1 h0
 ) (
 K0u1 d h0
 )
 ) (fun t0 h1 =>
 new [Value.int .u32 (IntKind.wrap .u32 t0)] h1 fun a_2 h2 =>
 appendS 1 4 s0.1 (⟨some a_2, 1, 1⟩ : Sl) h2 fun v_3 h3 =>
 Let (Int.fdiv t0 (2 ^ (min (Int.toNat 63) (IntKind.bits .u64))) : Int) fun borrow =>
 K0 (v_3, borrow, IntKind.wrap .i64 (s0.2.2 + 1)) h3
 )
 ) (
 nat_trim s0.1 h0 fun v_4 h4 =>
 Q v_4 h4
 )
 ) (Sl.nil, 0, 0) h
def nat_double (x0 : Sl) (k : Int) (h : Heap) (Q : Sl → Heap → Prop) : Prop :=
 Let (IntKind.wrap .i64 ((IntKind.wrap .i64 (Int.tdiv k 32)) + 1) : Int) fun t8 =>
 mkS [Value.int .u32 0] 4 t8 t8 h fun v h0 =>
 (0 ≤ (Int.tmod k 32)) ∧
 idxS v (IntKind.wrap .i64 (Int.tdiv k 32)) 1 fun a =>
 Lift.store a (Value.int .u32 (IntKind.wrap .u32 (1 * 2 ^ (min (Int.toNat (Int.tmod k 32)) (IntKind.bits .u32))))) h0 fun h1 =>
 nat_times x0 v h1 fun v_1 h2 =>
 nat_trim v_1 h2 fun v_2 h3 =>
 Q v_2 h3
def nat_common (x0 : Sl) (y : Sl) (h : Heap) (Q : Sl → Heap → Prop) : Prop :=
 nat_trim x0 h fun v h0 =>
 nat_trim y h0 fun v_1 h1 =>
 iteB ((v.len : Int) == 0) (
 Q v_1 h1
 ) (
 iteB ((v_1.len : Int) == 0) (
 Q v h1
 ) (
 seq (fun (K0 : Unit → Heap → Prop) =>
 nat_small v h1 fun v_2 h3 =>
 iteB v_2.2 (
 nat_small v_1 h3 fun v_3 h4 =>
 iteB v_3.2 (
 loop (fun (s0 : Int × Int) h5 (K0u1 : (Int × Int) → Heap → Prop) =>
 iteB (s0.2 != 0) (
 (s0.2 ≠ 0) ∧
 Let (Int.tmod s0.1 s0.2 : Int) fun m0 =>
 K0u1 (s0.2, m0) h5
 ) (
 nat_Of s0.1 h5 fun v_4 h6 =>
 Q v_4 h6
 )
 ) (v_2.1, v_3.1) h4
 ) (
 K0 () h4
 )
 ) (
 K0 () h3
 )
 ) (fun t0 h2 =>
 nat_halve v h2 fun v_5 h7 =>
 nat_halve v_1 h7 fun v_6 h8 =>
 loop (fun (s0u1 : Sl × Sl) h9 (K0u2 : (Sl × Sl) → Heap → Prop) =>
 nat_Cmp s0u1.1 s0u1.2 h9 fun v_7 h10 =>
 iteB (v_7 != 0) (
 seq (fun (K0u3 : (Sl × Sl) → Heap → Prop) =>
 nat_Cmp s0u1.1 s0u1.2 h10 fun v_8 h12 =>
 iteB (decide (v_8 < 0)) (
 K0u3 (s0u1.2, s0u1.1) h12
 ) (
 K0u3 s0u1 h12
 )
 ) (fun t0u1 h11 =>
 nat_minus t0u1.1 t0u1.2 h11 fun v_9 h13 =>
 nat_halve v_9 h13 fun v_10 h14 =>
 K0u2 (v_10.1, t0u1.2) h14
 )
 ) (
 nat_double s0u1.1 (if v_6.2 < v_5.2 then v_6.2 else v_5.2) h10 fun v_11 h15 =>
 Q v_11 h15
 )
 ) (v_5.1, v_6.1) h8
 )
 )
 )
def nat_Bench_Gcd (b : (Option Addr)) (x0 : Sl) (y : Sl) (h : Heap) (Q : Sl → Heap → Prop) : Prop :=
 nat_common x0 y h fun v h0 =>
 nat_Bench_fit b v h0 fun v_1 h1 =>
 Q v_1 h1
def nat_plus (x0 : Sl) (y : Sl) (h : Heap) (Q : Sl → Heap → Prop) : Prop :=
 loop (fun (s0 : Sl × Int × Int) h0 (K0 : (Sl × Int × Int) → Heap → Prop) =>
 iteB (decide (s0.2.2 < (if (y.len : Int) > (x0.len : Int) then (y.len : Int) else (x0.len : Int)))) (
 loop (fun (s0u1 : Int × Int) h1 (K0u1 : (Int × Int) → Heap → Prop) =>
 iteB (decide (s0u1.2 < 2)) (
 seq (fun (K0u2 : Int → Heap → Prop) =>
 idxV Sl.toV [Sl.toV x0, Sl.toV y] 2 s0u1.2 1 fun v =>
 iteB (decide (s0.2.2 < (v.len : Int))) (
 idxS v s0.2.2 1 fun a =>
 Lift.load (Value.int .u32) a h1 fun v_1 =>
 Let (IntKind.wrap .u64 (s0u1.1 + (IntKind.wrap .u64 v_1)) : Int) fun carry =>
 K0u2 carry h1
 ) (
 K0u2 s0u1.1 h1
 )
 ) (fun t0 h2 =>
 K0u1 (t0, IntKind.wrap .i64 (s0u1.2 + 1)) h2
 )
 ) (
 new [Value.int .u32 (IntKind.wrap .u32 s0u1.1)] h1 fun a_1 h3 =>
 appendS 1 4 s0.1 (⟨some a_1, 1, 1⟩ : Sl) h3 fun v_3 h4 =>
 Let (Int.fdiv s0u1.1 (2 ^ (min (Int.toNat 32) (IntKind.bits .u64))) : Int) fun carry_1 =>
 K0 (v_3, carry_1, IntKind.wrap .i64 (s0.2.2 + 1)) h4
 )
 ) (s0.2.1, 0) h0
 ) (
 new [Value.int .u32 (IntKind.wrap .u32 s0.2.1)] h0 fun a_2 h5 =>
 appendS 1 4 s0.1 (⟨some a_2, 1, 1⟩ : Sl) h5 fun v_5 h6 =>
 Q v_5 h6
 )
 ) (Sl.nil, 0, 0) h
def nat_bit (x0 : Sl) (at0 : Int) (h : Heap) (Q : Int → Heap → Prop) : Prop :=
 idxS x0 (IntKind.wrap .i64 (Int.tdiv at0 32)) 1 fun a =>
 Lift.load (Value.int .u32) a h fun v =>
 (0 ≤ (Int.tmod at0 32)) ∧
 Q (IntKind.wrap .u32 (((BitVec.ofInt (IntKind.bits .u32) (Int.fdiv v (2 ^ (min (Int.toNat (Int.tmod at0 32)) (IntKind.bits .u32)))) &&& BitVec.ofInt (IntKind.bits .u32) 1).toNat : Int))) h
def nat_divide (x0 : Sl) (y : Sl) (h : Heap) (Q : (Sl × Sl) → Heap → Prop) : Prop :=
 nat_small x0 h fun v h0 =>
 nat_small y h0 fun v_1 h1 =>
 seq (fun (K0 : Bool → Heap → Prop) =>
 iteB v.2 (
 K0 v_1.2 h1
 ) (
 K0 false h1
 )
 ) (fun t0 h2 =>
 iteB t0 (
 (v_1.1 ≠ 0) ∧
 (v_1.1 ≠ 0) ∧
 nat_Of (IntKind.wrap .u64 (Int.tdiv v.1 v_1.1)) h2 fun v_2 h3 =>
 nat_Of (Int.tmod v.1 v_1.1) h3 fun v_3 h4 =>
 Q (v_2, v_3) h4
 ) (
 nat_trim x0 h2 fun v_4 h5 =>
 nat_trim y h5 fun v_5 h6 =>
 Let ((v_4.len : Int) : Int) fun t38 =>
 mkS [Value.int .u32 0] 4 t38 t38 h6 fun v_6 h7 =>
 Let (IntKind.wrap .i64 ((IntKind.wrap .i64 ((v_4.len : Int) * 32)) - 1) : Int) fun at0 =>
 loop (fun (s0 : Sl × Int) h8 (K0u1 : (Sl × Int) → Heap → Prop) =>
 iteB (decide (s0.2 ≥ 0)) (
 seq (fun (K0u2 : Sl → Heap → Prop) =>
 nat_plus s0.1 s0.1 h8 fun v_7 h10 =>
 idxS v_7 0 1 fun a =>
 Lift.load (Value.int .u32) a h10 fun v_8 =>
 nat_bit v_4 s0.2 h10 fun v_9 h11 =>
 (cell? h11 a = some (Value.int .u32 v_8)) ∧
 idxS v_7 0 1 fun a_1 =>
 Lift.store a_1 (Value.int .u32 (IntKind.wrap .u32 (((BitVec.ofInt (IntKind.bits .u32) v_8 ||| BitVec.ofInt (IntKind.bits .u32) v_9).toNat : Int)))) h11 fun h12 =>
 nat_trim v_7 h12 fun v_10 h13 =>
 nat_Cmp v_10 v_5 h13 fun v_11 h14 =>
 iteB (decide (v_11 ≥ 0)) (
 nat_minus v_10 v_5 h14 fun v_12 h15 =>
 idxS v_6 (IntKind.wrap .i64 (Int.tdiv s0.2 32)) 1 fun a_2 =>
 Lift.load (Value.int .u32) a_2 h15 fun v_13 =>
 (0 ≤ (Int.tmod s0.2 32)) ∧
 idxS v_6 (IntKind.wrap .i64 (Int.tdiv s0.2 32)) 1 fun a_3 =>
 Lift.store a_3 (Value.int .u32 (IntKind.wrap .u32 (((BitVec.ofInt (IntKind.bits .u32) v_13 ||| BitVec.ofInt (IntKind.bits .u32) (IntKind.wrap .u32 (1 * 2 ^ (min (Int.toNat (Int.tmod s0.2 32)) (IntKind.bits .u32))))).toNat : Int)))) h15 fun h16 =>
 K0u2 v_12 h16
 ) (
 K0u2 v_10 h14
 )
 ) (fun t0u1 h9 =>
 Let (IntKind.wrap .i64 (s0.2 - 1) : Int) fun at0u1 =>
 K0u1 (t0u1, at0u1) h9
 )
 ) (
 nat_trim v_6 h8 fun v_14 h17 =>
 Q (v_14, s0.1) h17
 )
 ) (Sl.nil, at0) h7
 )
 )
def nat_Bench_Div (b : (Option Addr)) (x0 : Sl) (y : Sl) (h : Heap) (Q : (Sl × Sl) → Heap → Prop) : Prop :=
 nat_trim y h fun v h0 =>
 iteB ((v.len : Int) == 0) (
 Q (Sl.nil, Sl.nil) h0
 ) (
 nat_divide x0 y h0 fun v_1 h1 =>
 nat_Bench_fit b v_1.1 h1 fun v_2 h2 =>
 nat_Bench_fit b v_1.2 h2 fun v_3 h3 =>
 nilChk b fun a =>
 Lift.load Value.bool (a.add 1) h3 fun v_4 =>
 iteB v_4 (
 Q (Sl.nil, Sl.nil) h3
 ) (
 Q (v_2, v_3) h3
 )
 )
def slices_Equal_api_Nat_uint32 (s1 : Sl) (s2 : Sl) (h : Heap) (Q : Bool → Heap → Prop) : Prop :=
 iteB ((s1.len : Int) != (s2.len : Int)) (
 Q false h
 ) (
 loop (fun (s0 : Int) h0 (K0 : Int → Heap → Prop) =>
 iteB (decide (s0 < (s1.len : Int))) (
 idxS s1 s0 1 fun a =>
 Lift.load (Value.int .u32) a h0 fun v =>
 idxS s2 s0 1 fun a_1 =>
 Lift.load (Value.int .u32) a_1 h0 fun v_1 =>
 iteB (v != v_1) (
 Q false h0
 ) (
 K0 (IntKind.wrap .i64 (s0 + 1)) h0
 )
 ) (
 Q true h0
 )
 ) 0 h
 )
def ratio_isOne (x0 : Sl) (h : Heap) (Q : Bool → Heap → Prop) : Prop :=
 ratio_one h fun v h0 =>
 slices_Equal_api_Nat_uint32 x0 v h0 fun v_1 h1 =>
 Q v_1 h1
def ratio_form (neg : Bool) (num : Sl) (d : Sl) (h : Heap) (Q : (Bool × Sl × Sl) → Heap → Prop) : Prop :=
 mem h fun h0 =>
 ratio_free h0 fun v h1 =>
 nat_Bench_Gcd v num d h1 fun v_1 h2 =>
 nat_Bench_Div v num v_1 h2 fun v_2 h3 =>
 nat_Bench_Div v d v_1 h3 fun v_3 h4 =>
 seq (fun (K0 : Sl → Heap → Prop) =>
 ratio_isOne v_3.1 h4 fun v_4 h6 =>
 iteB v_4 (
 K0 Sl.nil h6
 ) (
 K0 v_3.1 h6
 )
 ) (fun t0 h5 =>
 iteB ((v_2.1.len : Int) == 0) (
 Q (false, Sl.nil, Sl.nil) h5
 ) (
 Q (neg, v_2.1, t0) h5
 )
 )
def nat_Bench_Add (b : (Option Addr)) (x0 : Sl) (y : Sl) (h : Heap) (Q : Sl → Heap → Prop) : Prop :=
 nat_plus x0 y h fun v h0 =>
 nat_Bench_fit b v h0 fun v_1 h1 =>
 Q v_1 h1
def nat_Bench_Over (b : (Option Addr)) (h : Heap) (Q : Bool → Heap → Prop) : Prop :=
 nilChk b fun a =>
 Lift.load Value.bool (a.add 1) h fun v =>
 Q v h
def ratio_fit (b : (Option Addr)) (x0 : Bool × Sl × Sl) (h : Heap) (Q : (Bool × Sl × Sl) → Heap → Prop) : Prop :=
 mem h fun h0 =>
 nat_Bench_Add b x0.2.1 Sl.nil h0 fun v h1 =>
 nat_Bench_Add b x0.2.2 Sl.nil h1 fun v_1 h2 =>
 nat_Bench_Over b h2 fun v_2 h3 =>
 iteB v_2 (
 Q (false, Sl.nil, Sl.nil) h3
 ) (
 Q x0 h3
 )
def ratio_Div (b : (Option Addr)) (x0 : Bool × Sl × Sl) (y : Bool × Sl × Sl) (h : Heap) (Q : (Bool × Sl × Sl) → Heap → Prop) : Prop :=
 mem h fun h0 =>
 ratio_Sign y h0 fun v h1 =>
 iteB (v == 0) (
 Q (false, Sl.nil, Sl.nil) h1
 ) (
 ratio_free h1 fun v_1 h2 =>
 ratio_den y h2 fun v_2 h3 =>
 nat_Bench_Mul v_1 x0.2.1 v_2 h3 fun v_3 h4 =>
 ratio_den x0 h4 fun v_4 h5 =>
 nat_Bench_Mul v_1 v_4 y.2.1 h5 fun v_5 h6 =>
 ratio_form (!(x0.1 == y.1)) v_3 v_5 h6 fun v_6 h7 =>
 ratio_fit b v_6 h7 fun v_7 h8 =>
 Q v_7 h8
 )
def linear_Of (v : Int) (h : Heap) (Q : (Bool × Sl × Sl × Sl) → Heap → Prop) : Prop :=
 mem h fun h0 =>
 ratio_Of 1 h0 fun v_1 h1 =>
 new [Value.int .i64 v, Value.bool v_1.1, Sl.toV v_1.2.1, Sl.toV v_1.2.2] h1 fun a h2 =>
 Q (false, Sl.nil, Sl.nil, (⟨some a, 1, 1⟩ : Sl)) h2
def ratio_Mul (b : (Option Addr)) (x0 : Bool × Sl × Sl) (y : Bool × Sl × Sl) (h : Heap) (Q : (Bool × Sl × Sl) → Heap → Prop) : Prop :=
 mem h fun h0 =>
 ratio_free h0 fun v h1 =>
 nat_Bench_Mul v x0.2.1 y.2.1 h1 fun v_1 h2 =>
 ratio_den x0 h2 fun v_2 h3 =>
 ratio_den y h3 fun v_3 h4 =>
 nat_Bench_Mul v v_2 v_3 h4 fun v_4 h5 =>
 ratio_form (!(x0.1 == y.1)) v_1 v_4 h5 fun v_5 h6 =>
 ratio_fit b v_5 h6 fun v_6 h7 =>
 Q v_6 h7
def linear_Scale_c1 (x0 : Bool × Sl × Sl) (c0 : Addr) (c1 : Addr) (h : Heap) (Q : (Bool × Sl × Sl) → Heap → Prop) : Prop :=
 mem h fun h0 =>
 Lift.load Value.pointer c0 h0 fun v =>
 loadS C_bool_sl_sl 3 c1 h0 fun v_1 =>
 ratio_Mul v v_1 x0 h0 fun v_2 h1 =>
 Q v_2 h1
def linear_kept (b : (Option Addr)) (p : Bool × Sl × Sl × Sl) (h : Heap) (Q : (Bool × Sl × Sl × Sl) → Heap → Prop) : Prop :=
 mem h fun h0 =>
 nat_Bench_Over b h0 fun v h1 =>
 iteB v (
 Q (false, Sl.nil, Sl.nil, Sl.nil) h1
 ) (
 Q p h1
 )
def linear_Scale (b : (Option Addr)) (k : Bool × Sl × Sl) (p : Bool × Sl × Sl × Sl) (h : Heap) (Q : (Bool × Sl × Sl × Sl) → Heap → Prop) : Prop :=
 new [Value.pointer b] h fun b_1 h0 =>
 new [Value.bool k.1, Sl.toV k.2.1, Sl.toV k.2.2] h0 fun k_1 h1 =>
 mem h1 fun h2 =>
 loadS C_bool_sl_sl 3 k_1 h2 fun v =>
 ratio_Sign v h2 fun v_1 h3 =>
 iteB (v_1 == 0) (
 Q (false, Sl.nil, Sl.nil, Sl.nil) h3
 ) (
 linear_Scale_c1 (p.1, p.2.1, p.2.2.1) b_1 k_1 h3 fun v_2 h4 =>
 mem h4 fun h5 =>
 loop (fun (s0 : Int × Bool × Sl × Sl × Sl) h6 (K0 : (Int × Bool × Sl × Sl × Sl) → Heap → Prop) =>
 iteB (decide (s0.1 < (p.2.2.2.len : Int))) (
 idxS p.2.2.2 s0.1 4 fun a =>
 loadS C_i64ubool_sl_sl 4 a h6 fun v_3 =>
 mem h6 fun h7 =>
 linear_Scale_c1 (v_3.2.1, v_3.2.2.1, v_3.2.2.2) b_1 k_1 h7 fun v_4 h8 =>
 new [Value.int .i64 v_3.1, Value.bool v_4.1, Sl.toV v_4.2.1, Sl.toV v_4.2.2] h8 fun a_1 h9 =>
 appendS 4 64 s0.2.2.2.2 (⟨some a_1, 1, 1⟩ : Sl) h9 fun v_6 h10 =>
 K0 (IntKind.wrap .i64 (s0.1 + 1), s0.2.1, s0.2.2.1, s0.2.2.2.1, v_6) h10
 ) (
 Lift.load Value.pointer b_1 h6 fun v_7 =>
 linear_kept v_7 (s0.2.1, s0.2.2.1, s0.2.2.2.1, s0.2.2.2.2) h6 fun v_8 h11 =>
 Q v_8 h11
 )
 ) (0, v_2.1, v_2.2.1, v_2.2.2, Sl.nil) h5
 )
def ratio_Neg (x0 : Bool × Sl × Sl) (h : Heap) (Q : (Bool × Sl × Sl) → Heap → Prop) : Prop :=
 mem h fun h0 =>
 seq (fun (K0 : Bool → Heap → Prop) =>
 iteB (!x0.1) (
 Let (decide ((x0.2.1.len : Int) > 0) : Bool) fun neg =>
 K0 neg h0
 ) (
 K0 false h0
 )
 ) (fun t0 h1 =>
 slices_Clone_api_Nat_uint32 x0.2.1 h1 fun v h2 =>
 slices_Clone_api_Nat_uint32 x0.2.2 h2 fun v_1 h3 =>
 Q (t0, v, v_1) h3
 )
def tableau_without (p : Bool × Sl × Sl × Sl) (v : Int) (h : Heap) (Q : (Bool × Sl × Sl × Sl) → Heap → Prop) : Prop :=
 mem h fun h0 =>
 mem h0 fun h1 =>
 loop (fun (s0 : Int × Bool × Sl × Sl × Sl) h2 (K0 : (Int × Bool × Sl × Sl × Sl) → Heap → Prop) =>
 iteB (decide (s0.1 < (p.2.2.2.len : Int))) (
 seq (fun (K0u1 : (Bool × Sl × Sl × Sl) → Heap → Prop) =>
 idxS p.2.2.2 s0.1 4 fun a =>
 loadS C_i64ubool_sl_sl 4 a h2 fun v_1 =>
 mem h2 fun h4 =>
 iteB (v_1.1 != v) (
 new [Value.int .i64 v_1.1, Value.bool v_1.2.1, Sl.toV v_1.2.2.1, Sl.toV v_1.2.2.2] h4 fun a_1 h5 =>
 appendS 4 64 s0.2.2.2.2 (⟨some a_1, 1, 1⟩ : Sl) h5 fun v_3 h6 =>
 K0u1 (s0.2.1, s0.2.2.1, s0.2.2.2.1, v_3) h6
 ) (
 K0u1 (s0.2.1, s0.2.2.1, s0.2.2.2.1, s0.2.2.2.2) h4
 )
 ) (fun t0 h3 =>
 K0 (IntKind.wrap .i64 (s0.1 + 1), t0.1, t0.2.1, t0.2.2.1, t0.2.2.2) h3
 )
 ) (
 Q (s0.2.1, s0.2.2.1, s0.2.2.2.1, s0.2.2.2.2) h2
 )
 ) (0, p.1, p.2.1, p.2.2.1, Sl.nil) h1
def ratio_over (x0 : Bool × Sl) (n : Sl) (h : Heap) (Q : (Bool × Sl) → Heap → Prop) : Prop :=
 mem h fun h0 =>
 ratio_free h0 fun v h1 =>
 nat_Bench_Mul v x0.2 n h1 fun v_1 h2 =>
 Q (x0.1, v_1) h2
def ratio_cross (x0 : Bool × Sl × Sl) (y : Bool × Sl × Sl) (h : Heap) (Q : ((Bool × Sl) × (Bool × Sl)) → Heap → Prop) : Prop :=
 mem h fun h0 =>
 ratio_den y h0 fun v h1 =>
 ratio_over (x0.1, x0.2.1) v h1 fun v_1 h2 =>
 ratio_den x0 h2 fun v_2 h3 =>
 ratio_over (y.1, y.2.1) v_2 h3 fun v_3 h4 =>
 Q (v_1, v_3) h4
def nat_Bench_Sub (b : (Option Addr)) (x0 : Sl) (y : Sl) (h : Heap) (Q : Sl → Heap → Prop) : Prop :=
 nat_Cmp x0 y h fun v h0 =>
 iteB (decide (v < 0)) (
 Q Sl.nil h0
 ) (
 nat_trim y h0 fun v_1 h1 =>
 nat_minus x0 v_1 h1 fun v_2 h2 =>
 nat_Bench_fit b v_2 h2 fun v_3 h3 =>
 Q v_3 h3
 )
def ratio_sum (x0 : Bool × Sl) (y : Bool × Sl) (h : Heap) (Q : (Bool × Sl) → Heap → Prop) : Prop :=
 mem h fun h0 =>
 ratio_free h0 fun v h1 =>
 iteB (x0.1 == y.1) (
 nat_Bench_Add v x0.2 y.2 h1 fun v_1 h2 =>
 Q (x0.1, v_1) h2
 ) (
 nat_Cmp x0.2 y.2 h1 fun v_2 h3 =>
 iteB (decide (v_2 ≥ 0)) (
 nat_Bench_Sub v x0.2 y.2 h3 fun v_3 h4 =>
 Q (x0.1, v_3) h4
 ) (
 nat_Bench_Sub v y.2 x0.2 h3 fun v_4 h5 =>
 Q (y.1, v_4) h5
 )
 )
def ratio_Add (b : (Option Addr)) (x0 : Bool × Sl × Sl) (y : Bool × Sl × Sl) (h : Heap) (Q : (Bool × Sl × Sl) → Heap → Prop) : Prop :=
 mem h fun h0 =>
 ratio_cross x0 y h0 fun v h1 =>
 ratio_sum (v.1.1, v.1.2) (v.2.1, v.2.2) h1 fun v_1 h2 =>
 mem h2 fun h3 =>
 ratio_free h3 fun v_2 h4 =>
 ratio_den x0 h4 fun v_3 h5 =>
 ratio_den y h5 fun v_4 h6 =>
 nat_Bench_Mul v_2 v_3 v_4 h6 fun v_5 h7 =>
 ratio_form v_1.1 v_1.2 v_5 h7 fun v_6 h8 =>
 ratio_fit b v_6 h8 fun v_7 h9 =>
 Q v_7 h9
def linear_Add (b : (Option Addr)) (p : Bool × Sl × Sl × Sl) (k : Bool × Sl × Sl) (q : Bool × Sl × Sl × Sl) (h : Heap) (Q : (Bool × Sl × Sl × Sl) → Heap → Prop) : Prop :=
 mem h fun h0 =>
 linear_Scale b k q h0 fun v h1 =>
 ratio_Add b (p.1, p.2.1, p.2.2.1) (v.1, v.2.1, v.2.2.1) h1 fun v_1 h2 =>
 mem h2 fun h3 =>
 loop (fun (s0 : Sl × Sl × Bool × Sl × Sl × Sl) h4 (K0 : (Sl × Sl × Bool × Sl × Sl × Sl) → Heap → Prop) =>
 seq (fun (K0u1 : Bool → Heap → Prop) =>
 iteB (decide ((s0.1.len : Int) > 0)) (
 K0u1 true h4
 ) (
 K0u1 (decide ((s0.2.1.len : Int) > 0)) h4
 )
 ) (fun t0 h5 =>
 iteB t0 (
 mem h5 fun h6 =>
 seq (fun (K0u2 : (Sl × Sl × Int × Bool × Sl × Sl) → Heap → Prop) =>
 seq (fun (K0u3 : Bool → Heap → Prop) =>
 iteB ((s0.2.1.len : Int) == 0) (
 K0u3 true h6
 ) (
 iteB (decide ((s0.1.len : Int) > 0)) (
 idxS s0.1 0 4 fun a =>
 Lift.load (Value.int .i64) (a.add 0) h6 fun v_2 =>
 idxS s0.2.1 0 4 fun a_1 =>
 Lift.load (Value.int .i64) (a_1.add 0) h6 fun v_3 =>
 K0u3 (decide (v_2 < v_3)) h6
 ) (
 K0u3 false h6
 )
 )
 ) (fun t0u2 h8 =>
 iteB t0u2 (
 idxS s0.1 0 4 fun a_2 =>
 loadS C_i64ubool_sl_sl 4 a_2 h8 fun v_4 =>
 sliceOf s0.1 (some 1) none none 4 fun v_5 =>
 K0u2 (v_5, s0.2.1, v_4.1, v_4.2.1, v_4.2.2.1, v_4.2.2.2) h8
 ) (
 seq (fun (K0u4 : Bool → Heap → Prop) =>
 iteB ((s0.1.len : Int) == 0) (
 K0u4 true h8
 ) (
 idxS s0.1 0 4 fun a_3 =>
 Lift.load (Value.int .i64) (a_3.add 0) h8 fun v_6 =>
 idxS s0.2.1 0 4 fun a_4 =>
 Lift.load (Value.int .i64) (a_4.add 0) h8 fun v_7 =>
 K0u4 (decide (v_6 > v_7)) h8
 )
 ) (fun t0u3 h9 =>
 iteB t0u3 (
 idxS s0.2.1 0 4 fun a_5 =>
 loadS C_i64ubool_sl_sl 4 a_5 h9 fun v_8 =>
 sliceOf s0.2.1 (some 1) none none 4 fun v_9 =>
 K0u2 (s0.1, v_9, v_8.1, v_8.2.1, v_8.2.2.1, v_8.2.2.2) h9
 ) (
 idxS s0.1 0 4 fun a_6 =>
 Lift.load (Value.int .i64) (a_6.add 0) h9 fun v_10 =>
 idxS s0.1 0 4 fun a_7 =>
 loadS C_bool_sl_sl 3 (a_7.add 1) h9 fun v_11 =>
 idxS s0.2.1 0 4 fun a_8 =>
 loadS C_bool_sl_sl 3 (a_8.add 1) h9 fun v_12 =>
 ratio_Add b v_11 v_12 h9 fun v_13 h10 =>
 (cell? h10 (a_6.add 0) = some (Value.int .i64 v_10)) ∧
 sliceOf s0.1 (some 1) none none 4 fun v_14 =>
 sliceOf s0.2.1 (some 1) none none 4 fun v_15 =>
 K0u2 (v_14, v_15, v_10, v_13.1, v_13.2.1, v_13.2.2) h10
 )
 )
 )
 )
 ) (fun t0u1 h7 =>
 ratio_Sign (t0u1.2.2.2.1, t0u1.2.2.2.2.1, t0u1.2.2.2.2.2) h7 fun v_16 h11 =>
 iteB (v_16 != 0) (
 new [Value.int .i64 t0u1.2.2.1, Value.bool t0u1.2.2.2.1, Sl.toV t0u1.2.2.2.2.1, Sl.toV t0u1.2.2.2.2.2] h11 fun a_9 h12 =>
 appendS 4 64 s0.2.2.2.2.2 (⟨some a_9, 1, 1⟩ : Sl) h12 fun v_18 h13 =>
 K0 (t0u1.1, t0u1.2.1, s0.2.2.1, s0.2.2.2.1, s0.2.2.2.2.1, v_18) h13
 ) (
 K0 (t0u1.1, t0u1.2.1, s0.2.2.1, s0.2.2.2.1, s0.2.2.2.2.1, s0.2.2.2.2.2) h11
 )
 )
 ) (
 linear_kept b (s0.2.2.1, s0.2.2.2.1, s0.2.2.2.2.1, s0.2.2.2.2.2) h5 fun v_19 h14 =>
 Q v_19 h14
 )
 )
 ) (p.2.2.2, v.2.2.2, v_1.1, v_1.2.1, v_1.2.2, Sl.nil) h3
def slices_Clone_int_int (s0 : Sl) (h : Heap) (Q : Sl → Heap → Prop) : Prop :=
 iteB s0.a.isNone (
 Q Sl.nil h
 ) (
 new [] h fun a h0 =>
 appendS 1 8 (⟨some a, 0, 0⟩ : Sl) s0 h0 fun v_1 h1 =>
 Q v_1 h1
 )
def tableau_over (b : (Option Addr)) (h : Heap) (Q : Int → Heap → Prop) : Prop :=
 nat_Bench_Over b h fun v h0 =>
 iteB v (
 Q 6 h0
 ) (
 Q 0 h0
 )
def tableau_Pivot (b : (Option Addr)) (t0 : (Option Addr)) (row : Int) (v : Int) (h : Heap) (Q : Int → Heap → Prop) : Prop :=
 seq (fun (K0 : Bool → Heap → Prop) =>
 iteB (decide (row < 0)) (
 K0 true h
 ) (
 nilChk t0 fun a =>
 Lift.load Sl.toV (a.add 1) h fun v_1 =>
 K0 (decide (row ≥ (v_1.len : Int))) h
 )
 ) (fun t0u1 h0 =>
 iteB t0u1 (
 Q 2 h0
 ) (
 nilChk t0 fun a_1 =>
 Lift.load Sl.toV (a_1.add 1) h0 fun v_2 =>
 idxS v_2 row 4 fun a_2 =>
 loadS C_bool_sl_sl_sl 4 a_2 h0 fun v_3 =>
 tableau_coef v_3 v h0 fun v_4 h1 =>
 mem h1 fun h2 =>
 ratio_Sign v_4 h2 fun v_5 h3 =>
 iteB (v_5 == 0) (
 Q 1 h3
 ) (
 nilChk t0 fun a_3 =>
 Lift.load Sl.toV (a_3.add 0) h3 fun v_6 =>
 idxS v_6 row 1 fun a_4 =>
 Lift.load (Value.int .i64) a_4 h3 fun v_7 =>
 seq (fun (K0u1 : (Bool × Sl × Sl) → Heap → Prop) =>
 mem h3 fun h5 =>
 ratio_Of 1 h5 fun v_11 h12 =>
 mem h12 fun h13 =>
 ratio_Div b v_11 v_4 h13 fun v_12 h14 =>
 mem h14 fun h15 =>
 K0u1 v_12 h15
 ) (fun t0u2 h4 =>
 seq (fun (K0u2 : (Bool × Sl × Sl × Sl) → Heap → Prop) =>
 nilChk t0 fun a_5 =>
 Lift.load Sl.toV (a_5.add 1) h4 fun v_13 =>
 idxS v_13 row 4 fun a_6 =>
 loadS C_bool_sl_sl_sl 4 a_6 h4 fun v_14 =>
 mem h4 fun h17 =>
 linear_Of v_7 h17 fun v_30 h48 =>
 (cell? h48 (a_5.add 1) = some (Sl.toV v_13)) ∧
 (cells? h48 a_6 4 0 = some [Value.bool v_14.1, Sl.toV v_14.2.1, Sl.toV v_14.2.2.1, Sl.toV v_14.2.2.2]) ∧
 mem h48 fun h49 =>
 linear_Scale b t0u2 v_30 h49 fun v_31 h50 =>
 (cell? h50 (a_5.add 1) = some (Sl.toV v_13)) ∧
 (cells? h50 a_6 4 0 = some [Value.bool v_14.1, Sl.toV v_14.2.1, Sl.toV v_14.2.2.1, Sl.toV v_14.2.2.2]) ∧
 mem h50 fun h51 =>
 ratio_Neg t0u2 h51 fun v_32 h52 =>
 (cell? h52 (a_5.add 1) = some (Sl.toV v_13)) ∧
 (cells? h52 a_6 4 0 = some [Value.bool v_14.1, Sl.toV v_14.2.1, Sl.toV v_14.2.2.1, Sl.toV v_14.2.2.2]) ∧
 mem h52 fun h53 =>
 tableau_without v_14 v h53 fun v_33 h54 =>
 mem h54 fun h55 =>
 linear_Add b v_31 v_32 v_33 h55 fun v_34 h56 =>
 mem h56 fun h57 =>
 K0u2 v_34 h57
 ) (fun t0u3 h16 =>
 nilChk t0 fun a_7 =>
 Lift.load Sl.toV (a_7.add 1) h16 fun v_35 =>
 slices_Clone_api_Poly_api_Poly v_35 h16 fun v_36 h58 =>
 nilChk t0 fun a_8 =>
 Lift.load Sl.toV (a_8.add 1) h58 fun v_37 =>
 loop (fun (s0 : Int) h59 (K0u3 : Int → Heap → Prop) =>
 iteB (decide (s0 < (v_37.len : Int))) (
 seq (fun (K0u4 : Unit → Heap → Prop) =>
 idxS v_37 s0 4 fun a_9 =>
 loadS C_bool_sl_sl_sl 4 a_9 h59 fun v_38 =>
 mem h59 fun h61 =>
 tableau_coef v_38 v h61 fun v_39 h62 =>
 mem h62 fun h63 =>
 ratio_Sign v_39 h63 fun v_40 h64 =>
 iteB (v_40 != 0) (
 tableau_without v_38 v h64 fun v_41 h65 =>
 linear_Add b v_41 v_39 t0u3 h65 fun v_42 h66 =>
 idxS v_36 s0 4 fun a_10 =>
 storeS a_10 [Value.bool v_42.1, Sl.toV v_42.2.1, Sl.toV v_42.2.2.1, Sl.toV v_42.2.2.2] h66 fun h67 =>
 K0u4 () h67
 ) (
 K0u4 () h64
 )
 ) (fun t0u4 h60 =>
 K0u3 (IntKind.wrap .i64 (s0 + 1)) h60
 )
 ) (
 idxS v_36 row 4 fun a_11 =>
 storeS a_11 [Value.bool t0u3.1, Sl.toV t0u3.2.1, Sl.toV t0u3.2.2.1, Sl.toV t0u3.2.2.2] h59 fun h68 =>
 nilChk t0 fun a_12 =>
 Lift.load Sl.toV (a_12.add 0) h68 fun v_43 =>
 slices_Clone_int_int v_43 h68 fun v_44 h69 =>
 nilChk t0 fun a_13 =>
 Lift.store (a_13.add 1) (Sl.toV v_36) h69 fun h70 =>
 nilChk t0 fun a_14 =>
 Lift.store (a_14.add 0) (Sl.toV v_44) h70 fun h71 =>
 nilChk t0 fun a_15 =>
 Lift.load Sl.toV (a_15.add 0) h71 fun v_45 =>
 idxS v_45 row 1 fun a_16 =>
 Lift.store a_16 (Value.int .i64 v) h71 fun h72 =>
 tableau_over b h72 fun v_46 h73 =>
 Q v_46 h73
 )
 ) 0 h58
 )
 )
 )
 )
 )
def slices_Reverse_byte_byte (s0 : Sl) (h : Heap) (Q : Unit → Heap → Prop) : Prop :=
 Let (IntKind.wrap .i64 ((s0.len : Int) - 1) : Int) fun j =>
 loop (fun (s0u1 : Int × Int) h0 (K0 : (Int × Int) → Heap → Prop) =>
 iteB (decide (s0u1.1 < s0u1.2)) (
 idxS s0 s0u1.2 1 fun a =>
 Lift.load (Value.int .u8) a h0 fun v =>
 idxS s0 s0u1.1 1 fun a_1 =>
 Lift.load (Value.int .u8) a_1 h0 fun v_1 =>
 idxS s0 s0u1.1 1 fun a_2 =>
 Lift.store a_2 (Value.int .u8 v) h0 fun h1 =>
 idxS s0 s0u1.2 1 fun a_3 =>
 Lift.store a_3 (Value.int .u8 v_1) h1 fun h2 =>
 Let (IntKind.wrap .i64 (s0u1.1 + 1) : Int) fun i =>
 Let (IntKind.wrap .i64 (s0u1.2 - 1) : Int) fun j_1 =>
 K0 (i, j_1) h2
 ) (
 Q () h0
 )
 ) (0, j) h
def nat_Text (x0 : Sl) (h : Heap) (Q : ByteArray → Heap → Prop) : Prop :=
 nat_trim x0 h fun v h0 =>
 loop (fun (s0 : Sl × Sl) h1 (K0 : (Sl × Sl) → Heap → Prop) =>
 iteB (decide ((s0.1.len : Int) > 0)) (
 new [Value.int .u32 1000000000] h1 fun a h2 =>
 nat_divide s0.1 (⟨some a, 1, 1⟩ : Sl) h2 fun v_2 h3 =>
 nat_small v_2.2 h3 fun v_3 h4 =>
 loop (fun (s0u1 : Sl × Int × Int) h5 (K0u1 : (Sl × Int × Int) → Heap → Prop) =>
 seq (fun (K0u2 : Bool → Heap → Prop) =>
 iteB (decide (s0u1.2.2 < 9)) (
 iteB (decide ((v_2.1.len : Int) > 0)) (
 K0u2 true h5
 ) (
 K0u2 (decide (s0u1.2.1 > 0)) h5
 )
 ) (
 K0u2 false h5
 )
 ) (fun t0 h6 =>
 iteB t0 (
 new [Value.int .u8 (IntKind.wrap .u8 (IntKind.wrap .u64 (48 + (Int.tmod s0u1.2.1 10))))] h6 fun a_1 h7 =>
 appendS 1 1 s0u1.1 (⟨some a_1, 1, 1⟩ : Sl) h7 fun v_5 h8 =>
 Let (IntKind.wrap .u64 (Int.tdiv s0u1.2.1 10) : Int) fun part =>
 Let (IntKind.wrap .i64 (s0u1.2.2 + 1) : Int) fun i =>
 K0u1 (v_5, part, i) h8
 ) (
 K0 (v_2.1, s0u1.1) h6
 )
 )
 ) (s0.2, v_3.1, 0) h4
 ) (
 iteB ((s0.2.len : Int) == 0) (
 Q (ByteArray.mk #[48]) h1
 ) (
 slices_Reverse_byte_byte s0.2 h1 fun v_6 h9 =>
 strOf s0.2 h9 fun v_7 =>
 Q v_7 h9
 )
 )
 ) (v, Sl.nil) h0
def ratio_Text (x0 : Bool × Sl × Sl) (h : Heap) (Q : ByteArray → Heap → Prop) : Prop :=
 mem h fun h0 =>
 nat_Text x0.2.1 h0 fun v h1 =>
 seq (fun (K0 : ByteArray → Heap → Prop) =>
 iteB x0.1 (
 (((ByteArray.mk #[45]).size + v.size : Nat) : Int) ≤ 9223372036854775807 ∧
 Let (((ByteArray.mk #[45]) ++ v) : ByteArray) fun s0 =>
 K0 s0 h1
 ) (
 K0 v h1
 )
 ) (fun t0 h2 =>
 seq (fun (K0u1 : ByteArray → Heap → Prop) =>
 iteB (decide ((x0.2.2.len : Int) > 0)) (
 nat_Text x0.2.2 h2 fun v_1 h4 =>
 (((ByteArray.mk #[47]).size + v_1.size : Nat) : Int) ≤ 9223372036854775807 ∧
 ((t0.size + ((ByteArray.mk #[47]) ++ v_1).size : Nat) : Int) ≤ 9223372036854775807 ∧
 Let ((t0 ++ ((ByteArray.mk #[47]) ++ v_1)) : ByteArray) fun s0u1 =>
 K0u1 s0u1 h4
 ) (
 K0u1 t0 h2
 )
 ) (fun t0u1 h3 =>
 Q t0u1 h3
 )
 )
def law14uspeaks (h : Heap) (Q : Bool → Heap → Prop) : Prop :=
 law14uone h fun v h0 =>
 tableau_New v h0 fun v_1 h1 =>
 new [Sl.toV Sl.nil, Sl.toV Sl.nil, Sl.toV Sl.nil, Sl.toV Sl.nil, Sl.toV Sl.nil] h1 fun t0 h2 =>
 storeS t0 [Sl.toV v_1.1, Sl.toV v_1.2.1, Sl.toV v_1.2.2.1, Sl.toV v_1.2.2.2.1, Sl.toV v_1.2.2.2.2] h2 fun h3 =>
 nat_New 4 h3 fun v_2 h4 =>
 tableau_Pivot v_2 (some t0) 0 0 h4 fun v_3 h5 =>
 seq (fun (K0 : Bool → Heap → Prop) =>
 iteB (v_3 == 0) (
 Lift.load Sl.toV (t0.add 1) h5 fun v_4 =>
 iteB ((v_4.len : Int) == 1) (
 Lift.load Sl.toV (t0.add 1) h5 fun v_5 =>
 idxS v_5 0 4 fun a =>
 Lift.load Sl.toV (a.add 3) h5 fun v_6 =>
 iteB ((v_6.len : Int) == 2) (
 Lift.load Sl.toV (t0.add 1) h5 fun v_7 =>
 idxS v_7 0 4 fun a_1 =>
 Lift.load Sl.toV (a_1.add 3) h5 fun v_8 =>
 idxS v_8 0 4 fun a_2 =>
 loadS C_bool_sl_sl 3 (a_2.add 1) h5 fun v_9 =>
 ratio_Text v_9 h5 fun v_10 h7 =>
 iteB (v_10.toList == (ByteArray.mk #[45, 49]).toList) (
 Lift.load Sl.toV (t0.add 0) h7 fun v_11 =>
 idxS v_11 0 1 fun a_3 =>
 Lift.load (Value.int .i64) a_3 h7 fun v_12 =>
 K0 (v_12 == 0) h7
 ) (
 K0 false h7
 )
 ) (
 K0 false h5
 )
 ) (
 K0 false h5
 )
 ) (
 K0 false h5
 )
 ) (fun t0u1 h6 =>
 Q t0u1 h6
 )
def law02uGreat (l : Sl) (h : Heap) (Q : Bool → Heap → Prop) : Prop :=
 loop (fun (s0 : Int) h0 (K0 : Int → Heap → Prop) =>
 iteB (decide (s0 < (l.len : Int))) (
 idxS l s0 3 fun a =>
 loadS C_bool_sl_sl 3 a h0 fun v =>
 mem h0 fun h1 =>
 seq (fun (K0u1 : Bool → Heap → Prop) =>
 iteB (decide ((v.2.1.len : Int) > 6)) (
 K0u1 true h1
 ) (
 K0u1 (decide ((v.2.2.len : Int) > 6)) h1
 )
 ) (fun t0 h2 =>
 iteB t0 (
 Q true h2
 ) (
 K0 (IntKind.wrap .i64 (s0 + 1)) h2
 )
 )
 ) (
 Q false h0
 )
 ) 0 h
def ref01uCut (x0 : Sl) (h : Heap) (Q : Sl → Heap → Prop) : Prop :=
 Let ((x0.len : Int) : Int) fun n =>
 loop (fun (s0 : Int) h0 (K0 : Int → Heap → Prop) =>
 seq (fun (K0u1 : Bool → Heap → Prop) =>
 iteB (decide (s0 > 0)) (
 idxS x0 (IntKind.wrap .i64 (s0 - 1)) 1 fun a =>
 Lift.load (Value.int .i64) a h0 fun v =>
 K0u1 (v == 0) h0
 ) (
 K0u1 false h0
 )
 ) (fun t0 h1 =>
 iteB t0 (
 Let (IntKind.wrap .i64 (s0 - 1) : Int) fun n_1 =>
 K0 n_1 h1
 ) (
 sliceOf x0 none (some s0) none 1 fun v_1 =>
 Q v_1 h1
 )
 )
 ) n h
def ref01uOf (x0 : Sl) (h : Heap) (Q : Sl → Heap → Prop) : Prop :=
 new [] h fun a h0 =>
 Let ((⟨some a, 0, 0⟩ : Sl) : Sl) fun out =>
 Let (IntKind.wrap .i64 ((x0.len : Int) - 1) : Int) fun i =>
 loop (fun (s0 : Sl × Int) h1 (K0 : (Sl × Int) → Heap → Prop) =>
 iteB (decide (s0.2 ≥ 0)) (
 idxS x0 s0.2 1 fun a_1 =>
 Lift.load (Value.int .u32) a_1 h1 fun v_1 =>
 Let (IntKind.wrap .i64 v_1 : Int) fun carry =>
 loop (fun (s0u1 : Int × Int) h2 (K0u1 : (Int × Int) → Heap → Prop) =>
 iteB (decide (s0u1.2 < (s0.1.len : Int))) (
 idxS s0.1 s0u1.2 1 fun a_2 =>
 Lift.load (Value.int .i64) a_2 h2 fun v_2 =>
 Let (IntKind.wrap .i64 ((IntKind.wrap .i64 (v_2 * 4294967296)) + s0u1.1) : Int) fun n =>
 idxS s0.1 s0u1.2 1 fun a_3 =>
 Lift.store a_3 (Value.int .i64 (Int.tmod n 10)) h2 fun h3 =>
 Let (IntKind.wrap .i64 (Int.tdiv n 10) : Int) fun carry_1 =>
 Let (IntKind.wrap .i64 (s0u1.2 + 1) : Int) fun k =>
 K0u1 (carry_1, k) h3
 ) (
 loop (fun (s0u2 : Sl × Int) h4 (K0u2 : (Sl × Int) → Heap → Prop) =>
 iteB (decide (s0u2.2 > 0)) (
 new [Value.int .i64 (Int.tmod s0u2.2 10)] h4 fun a_4 h5 =>
 appendS 1 8 s0u2.1 (⟨some a_4, 1, 1⟩ : Sl) h5 fun v_4 h6 =>
 Let (IntKind.wrap .i64 (Int.tdiv s0u2.2 10) : Int) fun carry_2 =>
 K0u2 (v_4, carry_2) h6
 ) (
 Let (IntKind.wrap .i64 (s0.2 - 1) : Int) fun i_1 =>
 K0 (s0u2.1, i_1) h4
 )
 ) (s0.1, s0u1.1) h2
 )
 ) (carry, 0) h1
 ) (
 ref01uCut s0.1 h1 fun v_5 h7 =>
 Q v_5 h7
 )
 ) (out, i) h0
def ref02uOf (x0 : Bool × Sl × Sl) (h : Heap) (Q : (Bool × Sl × Sl) → Heap → Prop) : Prop :=
 mem h fun h0 =>
 seq (fun (K0 : (Bool × Sl × Sl) → Heap → Prop) =>
 mem h0 fun h2 =>
 ref01uOf x0.2.1 h2 fun v_3 h9 =>
 mem h9 fun h10 =>
 ref01uOf x0.2.2 h10 fun v_4 h11 =>
 mem h11 fun h12 =>
 K0 (x0.1, v_3, v_4) h12
 ) (fun t0 h1 =>
 seq (fun (K0u1 : (Bool × Sl × Sl) → Heap → Prop) =>
 iteB ((t0.2.2.len : Int) == 0) (
 new [Value.int .i64 1] h1 fun a h14 =>
 K0u1 (t0.1, t0.2.1, (⟨some a, 1, 1⟩ : Sl)) h14
 ) (
 K0u1 t0 h1
 )
 ) (fun t0u1 h13 =>
 Q t0u1 h13
 )
 )
def ref02uInt (n : Int) (h : Heap) (Q : (Bool × Sl × Sl) → Heap → Prop) : Prop :=
 mem h fun h0 =>
 new [] h0 fun a h1 =>
 new [Value.int .i64 1] h1 fun a_1 h2 =>
 mem h2 fun h3 =>
 seq (fun (K0 : Int → Heap → Prop) =>
 iteB (decide (n < 0)) (
 Let (IntKind.wrap .i64 (0 - n) : Int) fun n_1 =>
 K0 n_1 h3
 ) (
 K0 n h3
 )
 ) (fun t0 h4 =>
 loop (fun (s0 : Int × Bool × Sl × Sl) h5 (K0u1 : (Int × Bool × Sl × Sl) → Heap → Prop) =>
 iteB (decide (s0.1 > 0)) (
 new [Value.int .i64 (Int.tmod s0.1 10)] h5 fun a_2 h6 =>
 appendS 1 8 s0.2.2.1 (⟨some a_2, 1, 1⟩ : Sl) h6 fun v_3 h7 =>
 Let (IntKind.wrap .i64 (Int.tdiv s0.1 10) : Int) fun n_2 =>
 K0u1 (n_2, s0.2.1, v_3, s0.2.2.2) h7
 ) (
 Q (s0.2.1, s0.2.2.1, s0.2.2.2) h5
 )
 ) (t0, decide (n < 0), (⟨some a, 0, 0⟩ : Sl), (⟨some a_1, 1, 1⟩ : Sl)) h4
 )
def ref01uCmp (x0 : Sl) (y : Sl) (h : Heap) (Q : Int → Heap → Prop) : Prop :=
 iteB ((x0.len : Int) != (y.len : Int)) (
 iteB (decide ((x0.len : Int) < (y.len : Int))) (
 Q (-1) h
 ) (
 Q 1 h
 )
 ) (
 Let (IntKind.wrap .i64 ((x0.len : Int) - 1) : Int) fun i =>
 loop (fun (s0 : Int) h0 (K0 : Int → Heap → Prop) =>
 iteB (decide (s0 ≥ 0)) (
 idxS x0 s0 1 fun a =>
 Lift.load (Value.int .i64) a h0 fun v =>
 idxS y s0 1 fun a_1 =>
 Lift.load (Value.int .i64) a_1 h0 fun v_1 =>
 iteB (decide (v < v_1)) (
 Q (-1) h0
 ) (
 idxS x0 s0 1 fun a_2 =>
 Lift.load (Value.int .i64) a_2 h0 fun v_2 =>
 idxS y s0 1 fun a_3 =>
 Lift.load (Value.int .i64) a_3 h0 fun v_3 =>
 iteB (decide (v_2 > v_3)) (
 Q 1 h0
 ) (
 Let (IntKind.wrap .i64 (s0 - 1) : Int) fun i_1 =>
 K0 i_1 h0
 )
 )
 ) (
 Q 0 h0
 )
 ) i h
 )
def ref01uSub (x0 : Sl) (y : Sl) (h : Heap) (Q : Sl → Heap → Prop) : Prop :=
 ref01uCmp x0 y h fun v h0 =>
 iteB (decide (v < 0)) (
 new [] h0 fun a h1 =>
 Q (⟨some a, 0, 0⟩ : Sl) h1
 ) (
 new [] h0 fun a_1 h2 =>
 Let ((⟨some a_1, 0, 0⟩ : Sl) : Sl) fun out =>
 loop (fun (s0 : Sl × Int × Int) h3 (K0 : (Sl × Int × Int) → Heap → Prop) =>
 iteB (decide (s0.2.2 < (x0.len : Int))) (
 idxS x0 s0.2.2 1 fun a_2 =>
 Lift.load (Value.int .i64) a_2 h3 fun v_3 =>
 Let (IntKind.wrap .i64 (v_3 - s0.2.1) : Int) fun n =>
 seq (fun (K0u1 : Int → Heap → Prop) =>
 iteB (decide (s0.2.2 < (y.len : Int))) (
 idxS y s0.2.2 1 fun a_3 =>
 Lift.load (Value.int .i64) a_3 h3 fun v_4 =>
 Let (IntKind.wrap .i64 (n - v_4) : Int) fun n_1 =>
 K0u1 n_1 h3
 ) (
 K0u1 n h3
 )
 ) (fun t0 h4 =>
 seq (fun (K0u2 : (Int × Int) → Heap → Prop) =>
 iteB (decide (t0 < 0)) (
 Let (IntKind.wrap .i64 (t0 + 10) : Int) fun n_2 =>
 K0u2 (1, n_2) h4
 ) (
 K0u2 (0, t0) h4
 )
 ) (fun t0u1 h5 =>
 new [Value.int .i64 t0u1.2] h5 fun a_4 h6 =>
 appendS 1 8 s0.1 (⟨some a_4, 1, 1⟩ : Sl) h6 fun v_6 h7 =>
 Let (IntKind.wrap .i64 (s0.2.2 + 1) : Int) fun i =>
 K0 (v_6, t0u1.1, i) h7
 )
 )
 ) (
 ref01uCut s0.1 h3 fun v_7 h8 =>
 Q v_7 h8
 )
 ) (out, 0, 0) h2
 )
def ref01uDiv (x0 : Sl) (y : Sl) (h : Heap) (Q : (Sl × Sl) → Heap → Prop) : Prop :=
 iteB ((y.len : Int) == 0) (
 new [] h fun a h0 =>
 new [] h0 fun a_1 h1 =>
 Q ((⟨some a, 0, 0⟩ : Sl), (⟨some a_1, 0, 0⟩ : Sl)) h1
 ) (
 Let ((x0.len : Int) : Int) fun t15 =>
 mkS [Value.int .i64 0] 8 t15 t15 h fun v_2 h2 =>
 new [] h2 fun a_2 h3 =>
 Let ((⟨some a_2, 0, 0⟩ : Sl) : Sl) fun r =>
 Let (IntKind.wrap .i64 ((x0.len : Int) - 1) : Int) fun i =>
 loop (fun (s0 : Sl × Int) h4 (K0 : (Sl × Int) → Heap → Prop) =>
 iteB (decide (s0.2 ≥ 0)) (
 idxS x0 s0.2 1 fun a_3 =>
 Lift.load (Value.int .i64) a_3 h4 fun v_4 =>
 new [Value.int .i64 v_4] h4 fun a_4 h5 =>
 appendS 1 8 (⟨some a_4, 1, 1⟩ : Sl) s0.1 h5 fun v_6 h6 =>
 ref01uCut v_6 h6 fun v_7 h7 =>
 loop (fun (s0u1 : Sl) h8 (K0u1 : Sl → Heap → Prop) =>
 ref01uCmp s0u1 y h8 fun v_8 h9 =>
 iteB (decide (v_8 ≥ 0)) (
 ref01uSub s0u1 y h9 fun v_9 h10 =>
 idxS v_2 s0.2 1 fun a_5 =>
 Lift.load (Value.int .i64) a_5 h10 fun v_10 =>
 idxS v_2 s0.2 1 fun a_6 =>
 Lift.store a_6 (Value.int .i64 (IntKind.wrap .i64 (v_10 + 1))) h10 fun h11 =>
 K0u1 v_9 h11
 ) (
 Let (IntKind.wrap .i64 (s0.2 - 1) : Int) fun i_1 =>
 K0 (s0u1, i_1) h9
 )
 ) v_7 h7
 ) (
 ref01uCut v_2 h4 fun v_11 h12 =>
 Q (v_11, s0.1) h12
 )
 ) (r, i) h3
 )
def ref01uGcd (x0 : Sl) (y : Sl) (h : Heap) (Q : Sl → Heap → Prop) : Prop :=
 loop (fun (s0 : Sl × Sl) h0 (K0 : (Sl × Sl) → Heap → Prop) =>
 iteB (decide ((s0.2.len : Int) > 0)) (
 ref01uDiv s0.1 s0.2 h0 fun v h1 =>
 K0 (s0.2, v.2) h1
 ) (
 Q s0.1 h0
 )
 ) (x0, y) h
def ref02uLow (r : Bool × Sl × Sl) (h : Heap) (Q : (Bool × Sl × Sl) → Heap → Prop) : Prop :=
 mem h fun h0 =>
 iteB ((r.2.1.len : Int) == 0) (
 ref02uInt 0 h0 fun v h1 =>
 Q v h1
 ) (
 ref01uGcd r.2.1 r.2.2 h0 fun v_1 h2 =>
 ref01uDiv r.2.1 v_1 h2 fun v_2 h3 =>
 ref01uDiv r.2.2 v_1 h3 fun v_3 h4 =>
 Q (r.1, v_2.1, v_3.1) h4
 )
def ref01uLimbs (x0 : Sl) (h : Heap) (Q : Sl → Heap → Prop) : Prop :=
 new [] h fun a h0 =>
 Let ((⟨some a, 0, 0⟩ : Sl) : Sl) fun out =>
 Let (IntKind.wrap .i64 ((x0.len : Int) - 1) : Int) fun i =>
 loop (fun (s0 : Sl × Int) h1 (K0 : (Sl × Int) → Heap → Prop) =>
 iteB (decide (s0.2 ≥ 0)) (
 seq (fun (K0u1 : Sl → Heap → Prop) =>
 idxS x0 s0.2 1 fun a_1 =>
 Lift.load (Value.int .i64) a_1 h1 fun v_1 =>
 Let (IntKind.wrap .u64 v_1 : Int) fun carry =>
 loop (fun (s0u1 : Int × Int) h3 (K0u2 : (Int × Int) → Heap → Prop) =>
 iteB (decide (s0u1.2 < (s0.1.len : Int))) (
 idxS s0.1 s0u1.2 1 fun a_2 =>
 Lift.load (Value.int .u32) a_2 h3 fun v_2 =>
 Let (IntKind.wrap .u64 ((IntKind.wrap .u64 ((IntKind.wrap .u64 v_2) * 10)) + s0u1.1) : Int) fun n =>
 idxS s0.1 s0u1.2 1 fun a_3 =>
 Lift.store a_3 (Value.int .u32 (IntKind.wrap .u32 (Int.tmod n 4294967296))) h3 fun h4 =>
 Let (IntKind.wrap .u64 (Int.tdiv n 4294967296) : Int) fun carry_1 =>
 Let (IntKind.wrap .i64 (s0u1.2 + 1) : Int) fun k =>
 K0u2 (carry_1, k) h4
 ) (
 iteB (decide (s0u1.1 > 0)) (
 new [Value.int .u32 (IntKind.wrap .u32 s0u1.1)] h3 fun a_4 h5 =>
 appendS 1 4 s0.1 (⟨some a_4, 1, 1⟩ : Sl) h5 fun v_4 h6 =>
 K0u1 v_4 h6
 ) (
 K0u1 s0.1 h3
 )
 )
 ) (carry, 0) h1
 ) (fun t0 h2 =>
 Let (IntKind.wrap .i64 (s0.2 - 1) : Int) fun i_1 =>
 K0 (t0, i_1) h2
 )
 ) (
 Q s0.1 h1
 )
 ) (out, i) h0
def ref02uForm (r : Bool × Sl × Sl) (h : Heap) (Q : (Bool × Sl × Sl) → Heap → Prop) : Prop :=
 mem h fun h0 =>
 ref02uLow r h0 fun v h1 =>
 seq (fun (K0 : (Bool × Sl × Sl) → Heap → Prop) =>
 mem h1 fun h3 =>
 ref01uLimbs v.2.1 h3 fun v_2 h6 =>
 mem h6 fun h7 =>
 K0 (v.1, v_2, Sl.nil) h7
 ) (fun t0 h2 =>
 seq (fun (K0u1 : (Bool × Sl × Sl) → Heap → Prop) =>
 seq (fun (K0u2 : Bool → Heap → Prop) =>
 iteB ((v.2.2.len : Int) != 1) (
 K0u2 true h2
 ) (
 idxS v.2.2 0 1 fun a =>
 Lift.load (Value.int .i64) a h2 fun v_3 =>
 K0u2 (v_3 != 1) h2
 )
 ) (fun t0u2 h9 =>
 iteB t0u2 (
 ref01uLimbs v.2.2 h9 fun v_4 h10 =>
 K0u1 (t0.1, t0.2.1, v_4) h10
 ) (
 K0u1 t0 h9
 )
 )
 ) (fun t0u1 h8 =>
 Q t0u1 h8
 )
 )
def ref01uSame (a : Sl) (b : Sl) (h : Heap) (Q : Bool → Heap → Prop) : Prop :=
 iteB ((a.len : Int) != (b.len : Int)) (
 Q false h
 ) (
 loop (fun (s0 : Int) h0 (K0 : Int → Heap → Prop) =>
 iteB (decide (s0 < (a.len : Int))) (
 idxS a s0 1 fun a_1 =>
 Lift.load (Value.int .u32) a_1 h0 fun v =>
 idxS b s0 1 fun a_2 =>
 Lift.load (Value.int .u32) a_2 h0 fun v_1 =>
 iteB (v != v_1) (
 Q false h0
 ) (
 Let (IntKind.wrap .i64 (s0 + 1) : Int) fun i =>
 K0 i h0
 )
 ) (
 Q true h0
 )
 ) 0 h
 )
def ref02uSame (x0 : Bool × Sl × Sl) (y : Bool × Sl × Sl) (h : Heap) (Q : Bool → Heap → Prop) : Prop :=
 mem h fun h0 =>
 seq (fun (K0 : Bool → Heap → Prop) =>
 iteB (x0.1 == y.1) (
 ref01uSame x0.2.1 y.2.1 h0 fun v h2 =>
 iteB v (
 ref01uSame x0.2.2 y.2.2 h2 fun v_1 h3 =>
 K0 v_1 h3
 ) (
 K0 false h2
 )
 ) (
 K0 false h0
 )
 ) (fun t0 h1 =>
 Q t0 h1
 )
def ref02uRight (x0 : Bool × Sl × Sl) (h : Heap) (Q : Bool → Heap → Prop) : Prop :=
 mem h fun h0 =>
 seq (fun (K0 : Bool → Heap → Prop) =>
 iteB (decide ((x0.2.1.len : Int) > 0)) (
 idxS x0.2.1 (IntKind.wrap .i64 ((x0.2.1.len : Int) - 1)) 1 fun a =>
 Lift.load (Value.int .u32) a h0 fun v =>
 iteB (v == 0) (
 K0 true h0
 ) (
 iteB (decide ((x0.2.2.len : Int) > 0)) (
 idxS x0.2.2 (IntKind.wrap .i64 ((x0.2.2.len : Int) - 1)) 1 fun a_1 =>
 Lift.load (Value.int .u32) a_1 h0 fun v_1 =>
 iteB (v_1 == 0) (
 K0 true h0
 ) (
 iteB ((x0.2.1.len : Int) == 0) (
 K0 x0.1 h0
 ) (
 K0 false h0
 )
 )
 ) (
 iteB ((x0.2.1.len : Int) == 0) (
 K0 x0.1 h0
 ) (
 K0 false h0
 )
 )
 )
 ) (
 iteB (decide ((x0.2.2.len : Int) > 0)) (
 idxS x0.2.2 (IntKind.wrap .i64 ((x0.2.2.len : Int) - 1)) 1 fun a_2 =>
 Lift.load (Value.int .u32) a_2 h0 fun v_2 =>
 iteB (v_2 == 0) (
 K0 true h0
 ) (
 iteB ((x0.2.1.len : Int) == 0) (
 K0 x0.1 h0
 ) (
 K0 false h0
 )
 )
 ) (
 iteB ((x0.2.1.len : Int) == 0) (
 K0 x0.1 h0
 ) (
 K0 false h0
 )
 )
 )
 ) (fun t0 h1 =>
 iteB t0 (
 Q false h1
 ) (
 ref02uOf x0 h1 fun v_3 h2 =>
 ref02uForm v_3 h2 fun v_4 h3 =>
 ref02uSame x0 v_4 h3 fun v_5 h4 =>
 Q v_5 h4
 )
 )
def ref12uRight (p : Bool × Sl × Sl × Sl) (h : Heap) (Q : Bool → Heap → Prop) : Prop :=
 mem h fun h0 =>
 ref02uRight (p.1, p.2.1, p.2.2.1) h0 fun v h1 =>
 iteB (!v) (
 Q false h1
 ) (
 loop (fun (s0 : Int) h2 (K0 : Int → Heap → Prop) =>
 iteB (decide (s0 < (p.2.2.2.len : Int))) (
 idxS p.2.2.2 s0 4 fun a =>
 loadS C_i64ubool_sl_sl 4 a h2 fun v_1 =>
 mem h2 fun h3 =>
 seq (fun (K0u1 : Bool → Heap → Prop) =>
 iteB (decide (v_1.1 < 0)) (
 K0u1 true h3
 ) (
 iteB (decide (s0 > 0)) (
 idxS p.2.2.2 (IntKind.wrap .i64 (s0 - 1)) 4 fun a_1 =>
 Lift.load (Value.int .i64) (a_1.add 0) h3 fun v_2 =>
 iteB (decide (v_1.1 ≤ v_2)) (
 K0u1 true h3
 ) (
 ref02uRight (v_1.2.1, v_1.2.2.1, v_1.2.2.2) h3 fun v_3 h5 =>
 iteB (!v_3) (
 K0u1 true h5
 ) (
 K0u1 ((v_1.2.2.1.len : Int) == 0) h5
 )
 )
 ) (
 ref02uRight (v_1.2.1, v_1.2.2.1, v_1.2.2.2) h3 fun v_4 h6 =>
 iteB (!v_4) (
 K0u1 true h6
 ) (
 K0u1 ((v_1.2.2.1.len : Int) == 0) h6
 )
 )
 )
 ) (fun t0 h4 =>
 iteB t0 (
 Q false h4
 ) (
 Let (IntKind.wrap .i64 (s0 + 1) : Int) fun i =>
 K0 i h4
 )
 )
 ) (
 Q true h2
 )
 ) 0 h1
 )
def law12uOdd (l : Sl) (h : Heap) (Q : Bool → Heap → Prop) : Prop :=
 loop (fun (s0 : Int) h0 (K0 : Int → Heap → Prop) =>
 iteB (decide (s0 < (l.len : Int))) (
 idxS l s0 4 fun a =>
 loadS C_bool_sl_sl_sl 4 a h0 fun v =>
 mem h0 fun h1 =>
 seq (fun (K0u1 : Bool → Heap → Prop) =>
 iteB (decide ((v.2.2.2.len : Int) > 12)) (
 K0u1 true h1
 ) (
 new [Value.bool v.1, Sl.toV v.2.1, Sl.toV v.2.2.1] h1 fun a_1 h3 =>
 law02uGreat (⟨some a_1, 1, 1⟩ : Sl) h3 fun v_2 h4 =>
 iteB v_2 (
 K0u1 true h4
 ) (
 ref12uRight v h4 fun v_3 h5 =>
 K0u1 (!v_3) h5
 )
 )
 ) (fun t0 h2 =>
 iteB t0 (
 Q true h2
 ) (
 loop (fun (s0u1 : Int) h6 (K0u2 : Int → Heap → Prop) =>
 iteB (decide (s0u1 < (v.2.2.2.len : Int))) (
 idxS v.2.2.2 s0u1 4 fun a_2 =>
 loadS C_i64ubool_sl_sl 4 a_2 h6 fun v_4 =>
 mem h6 fun h7 =>
 new [Value.bool v_4.2.1, Sl.toV v_4.2.2.1, Sl.toV v_4.2.2.2] h7 fun a_3 h8 =>
 law02uGreat (⟨some a_3, 1, 1⟩ : Sl) h8 fun v_6 h9 =>
 iteB v_6 (
 Q true h9
 ) (
 K0u2 (IntKind.wrap .i64 (s0u1 + 1)) h9
 )
 ) (
 K0 (IntKind.wrap .i64 (s0 + 1)) h6
 )
 ) 0 h2
 )
 )
 ) (
 Q false h0
 )
 ) 0 h
def law14uGreat (rows : Sl) (n : Int) (h : Heap) (Q : Bool → Heap → Prop) : Prop :=
 seq (fun (K0 : Bool → Heap → Prop) =>
 iteB (decide ((rows.len : Int) > 6)) (
 K0 true h
 ) (
 iteB (decide (n > 20)) (
 K0 true h
 ) (
 law12uOdd rows h fun v h1 =>
 K0 v h1
 )
 )
 ) (fun t0 h0 =>
 Q t0 h0
 )
def ref14uNew (p : Int × Int × Sl × Sl × Sl × Sl × Sl) (h : Heap) (Q : (Sl × Sl × Sl × Sl × Sl) → Heap → Prop) : Prop :=
 mem h fun h0 =>
 mem h0 fun h1 =>
 Let (IntKind.wrap .i64 (p.2.1 + (p.2.2.1.len : Int)) : Int) fun n =>
 loop (fun (s0 : Int × Sl × Sl × Sl × Sl × Sl) h2 (K0 : (Int × Sl × Sl × Sl × Sl × Sl) → Heap → Prop) =>
 iteB (decide (s0.1 < (p.2.2.1.len : Int))) (
 new [Value.int .i64 (IntKind.wrap .i64 (p.2.1 + s0.1))] h2 fun a h3 =>
 appendS 1 8 s0.2.1 (⟨some a, 1, 1⟩ : Sl) h3 fun v_1 h4 =>
 Let (IntKind.wrap .i64 (s0.1 + 1) : Int) fun i =>
 K0 (i, v_1, s0.2.2.1, s0.2.2.2.1, s0.2.2.2.2.1, s0.2.2.2.2.2) h4
 ) (
 loop (fun (s0u1 : Int × Sl × Sl × Sl × Sl × Sl) h5 (K0u1 : (Int × Sl × Sl × Sl × Sl × Sl) → Heap → Prop) =>
 iteB (decide (s0u1.1 < n)) (
 new [Value.bool false, Sl.toV Sl.nil, Sl.toV Sl.nil, Value.bool false, Sl.toV Sl.nil, Sl.toV Sl.nil] h5 fun a_1 h6 =>
 appendS 6 112 s0u1.2.2.2.1 (⟨some a_1, 1, 1⟩ : Sl) h6 fun v_3 h7 =>
 new [Value.int .i64 0, Value.bool false, Sl.toV Sl.nil, Sl.toV Sl.nil, Value.bool false, Sl.toV Sl.nil, Sl.toV Sl.nil] h7 fun a_2 h8 =>
 appendS 7 120 s0u1.2.2.2.2.1 (⟨some a_2, 1, 1⟩ : Sl) h8 fun v_5 h9 =>
 new [Value.int .i64 0, Value.bool false, Sl.toV Sl.nil, Sl.toV Sl.nil, Value.bool false, Sl.toV Sl.nil, Sl.toV Sl.nil] h9 fun a_3 h10 =>
 appendS 7 120 s0u1.2.2.2.2.2 (⟨some a_3, 1, 1⟩ : Sl) h10 fun v_7 h11 =>
 Let (IntKind.wrap .i64 (s0u1.1 + 1) : Int) fun i_1 =>
 K0u1 (i_1, s0u1.2.1, s0u1.2.2.1, v_3, v_5, v_7) h11
 ) (
 Q (s0u1.2.1, s0u1.2.2.1, s0u1.2.2.2.1, s0u1.2.2.2.2.1, s0u1.2.2.2.2.2) h5
 )
 ) (0, s0.2.1, s0.2.2.1, s0.2.2.2.1, s0.2.2.2.2.1, s0.2.2.2.2.2) h2
 )
 ) (0, Sl.nil, p.2.2.1, Sl.nil, Sl.nil, Sl.nil) h1
def ref03uRight (x0 : Bool × Sl × Sl × Bool × Sl × Sl) (h : Heap) (Q : Bool → Heap → Prop) : Prop :=
 mem h fun h0 =>
 seq (fun (K0 : Bool → Heap → Prop) =>
 ref02uRight (x0.1, x0.2.1, x0.2.2.1) h0 fun v h2 =>
 iteB v (
 ref02uRight (x0.2.2.2.1, x0.2.2.2.2.1, x0.2.2.2.2.2) h2 fun v_1 h3 =>
 K0 v_1 h3
 ) (
 K0 false h2
 )
 ) (fun t0 h1 =>
 Q t0 h1
 )
def law03uOdd (l : Sl) (h : Heap) (Q : Bool → Heap → Prop) : Prop :=
 loop (fun (s0 : Int) h0 (K0 : Int → Heap → Prop) =>
 iteB (decide (s0 < (l.len : Int))) (
 idxS l s0 6 fun a =>
 loadS C_bool_sl_sl_bool_sl_sl 6 a h0 fun v =>
 mem h0 fun h1 =>
 seq (fun (K0u1 : Bool → Heap → Prop) =>
 new [Value.bool v.1, Sl.toV v.2.1, Sl.toV v.2.2.1, Value.bool v.2.2.2.1, Sl.toV v.2.2.2.2.1, Sl.toV v.2.2.2.2.2] h1 fun a_1 h3 =>
 law02uGreat (⟨some a_1, 2, 2⟩ : Sl) h3 fun v_2 h4 =>
 iteB v_2 (
 K0u1 true h4
 ) (
 ref03uRight v h4 fun v_3 h5 =>
 K0u1 (!v_3) h5
 )
 ) (fun t0 h2 =>
 iteB t0 (
 Q true h2
 ) (
 K0 (IntKind.wrap .i64 (s0 + 1)) h2
 )
 )
 ) (
 Q false h0
 )
 ) 0 h
def slices_Index_int_int (s0 : Sl) (v : Int) (h : Heap) (Q : Int → Heap → Prop) : Prop :=
 loop (fun (s0u1 : Int) h0 (K0 : Int → Heap → Prop) =>
 iteB (decide (s0u1 < (s0.len : Int))) (
 idxS s0 s0u1 1 fun a =>
 Lift.load (Value.int .i64) a h0 fun v_1 =>
 iteB (v == v_1) (
 Q s0u1 h0
 ) (
 K0 (IntKind.wrap .i64 (s0u1 + 1)) h0
 )
 ) (
 Q (-1) h0
 )
 ) 0 h
def tableau_Row (t0 : Sl × Sl × Sl × Sl × Sl) (v : Int) (h : Heap) (Q : Int → Heap → Prop) : Prop :=
 mem h fun h0 =>
 slices_Index_int_int t0.1 v h0 fun v_1 h1 =>
 Q v_1 h1
def ratio_Sub (b : (Option Addr)) (x0 : Bool × Sl × Sl) (y : Bool × Sl × Sl) (h : Heap) (Q : (Bool × Sl × Sl) → Heap → Prop) : Prop :=
 mem h fun h0 =>
 ratio_Neg y h0 fun v h1 =>
 ratio_Add b x0 v h1 fun v_1 h2 =>
 Q v_1 h2
def delta_both__ratio_Sub (b : (Option Addr)) (x0 : Bool × Sl × Sl × Bool × Sl × Sl) (y : Bool × Sl × Sl × Bool × Sl × Sl) (h : Heap) (Q : (Bool × Sl × Sl × Bool × Sl × Sl) → Heap → Prop) : Prop :=
 mem h fun h0 =>
 seq (fun (K0 : (Bool × Sl × Sl × Bool × Sl × Sl) → Heap → Prop) =>
 mem h0 fun h2 =>
 ratio_Sub b (x0.1, x0.2.1, x0.2.2.1) (y.1, y.2.1, y.2.2.1) h2 fun v_3 h9 =>
 mem h9 fun h10 =>
 ratio_Sub b (x0.2.2.2.1, x0.2.2.2.2.1, x0.2.2.2.2.2) (y.2.2.2.1, y.2.2.2.2.1, y.2.2.2.2.2) h10 fun v_4 h11 =>
 mem h11 fun h12 =>
 K0 (v_3.1, v_3.2.1, v_3.2.2, v_4.1, v_4.2.1, v_4.2.2) h12
 ) (fun t0 h1 =>
 nat_Bench_Over b h1 fun v_5 h13 =>
 iteB v_5 (
 Q (false, Sl.nil, Sl.nil, false, Sl.nil, Sl.nil) h13
 ) (
 Q t0 h13
 )
 )
def delta_Sub (b : (Option Addr)) (x0 : Bool × Sl × Sl × Bool × Sl × Sl) (y : Bool × Sl × Sl × Bool × Sl × Sl) (h : Heap) (Q : (Bool × Sl × Sl × Bool × Sl × Sl) → Heap → Prop) : Prop :=
 mem h fun h0 =>
 delta_both__ratio_Sub b x0 y h0 fun v h1 =>
 Q v h1
def delta_both__ratio_Mul (b : (Option Addr)) (x0 : Bool × Sl × Sl × Bool × Sl × Sl) (y : Bool × Sl × Sl × Bool × Sl × Sl) (h : Heap) (Q : (Bool × Sl × Sl × Bool × Sl × Sl) → Heap → Prop) : Prop :=
 mem h fun h0 =>
 seq (fun (K0 : (Bool × Sl × Sl × Bool × Sl × Sl) → Heap → Prop) =>
 mem h0 fun h2 =>
 ratio_Mul b (x0.1, x0.2.1, x0.2.2.1) (y.1, y.2.1, y.2.2.1) h2 fun v_3 h9 =>
 mem h9 fun h10 =>
 ratio_Mul b (x0.2.2.2.1, x0.2.2.2.2.1, x0.2.2.2.2.2) (y.2.2.2.1, y.2.2.2.2.1, y.2.2.2.2.2) h10 fun v_4 h11 =>
 mem h11 fun h12 =>
 K0 (v_3.1, v_3.2.1, v_3.2.2, v_4.1, v_4.2.1, v_4.2.2) h12
 ) (fun t0 h1 =>
 nat_Bench_Over b h1 fun v_5 h13 =>
 iteB v_5 (
 Q (false, Sl.nil, Sl.nil, false, Sl.nil, Sl.nil) h13
 ) (
 Q t0 h13
 )
 )
def delta_Scale (b : (Option Addr)) (k : Bool × Sl × Sl) (x0 : Bool × Sl × Sl × Bool × Sl × Sl) (h : Heap) (Q : (Bool × Sl × Sl × Bool × Sl × Sl) → Heap → Prop) : Prop :=
 mem h fun h0 =>
 delta_both__ratio_Mul b (k.1, k.2.1, k.2.2, k.1, k.2.1, k.2.2) x0 h0 fun v h1 =>
 Q v h1
def delta_both__ratio_Add (b : (Option Addr)) (x0 : Bool × Sl × Sl × Bool × Sl × Sl) (y : Bool × Sl × Sl × Bool × Sl × Sl) (h : Heap) (Q : (Bool × Sl × Sl × Bool × Sl × Sl) → Heap → Prop) : Prop :=
 mem h fun h0 =>
 seq (fun (K0 : (Bool × Sl × Sl × Bool × Sl × Sl) → Heap → Prop) =>
 mem h0 fun h2 =>
 ratio_Add b (x0.1, x0.2.1, x0.2.2.1) (y.1, y.2.1, y.2.2.1) h2 fun v_3 h9 =>
 mem h9 fun h10 =>
 ratio_Add b (x0.2.2.2.1, x0.2.2.2.2.1, x0.2.2.2.2.2) (y.2.2.2.1, y.2.2.2.2.1, y.2.2.2.2.2) h10 fun v_4 h11 =>
 mem h11 fun h12 =>
 K0 (v_3.1, v_3.2.1, v_3.2.2, v_4.1, v_4.2.1, v_4.2.2) h12
 ) (fun t0 h1 =>
 nat_Bench_Over b h1 fun v_5 h13 =>
 iteB v_5 (
 Q (false, Sl.nil, Sl.nil, false, Sl.nil, Sl.nil) h13
 ) (
 Q t0 h13
 )
 )
def delta_Add (b : (Option Addr)) (x0 : Bool × Sl × Sl × Bool × Sl × Sl) (y : Bool × Sl × Sl × Bool × Sl × Sl) (h : Heap) (Q : (Bool × Sl × Sl × Bool × Sl × Sl) → Heap → Prop) : Prop :=
 mem h fun h0 =>
 delta_both__ratio_Add b x0 y h0 fun v h1 =>
 Q v h1
def tableau_Update (b : (Option Addr)) (t0 : (Option Addr)) (v : Int) (x0 : Bool × Sl × Sl × Bool × Sl × Sl) (h : Heap) (Q : Int → Heap → Prop) : Prop :=
 mem h fun h0 =>
 seq (fun (K0 : Bool → Heap → Prop) =>
 iteB (decide (v < 0)) (
 K0 true h0
 ) (
 nilChk t0 fun a =>
 Lift.load Sl.toV (a.add 2) h0 fun v_1 =>
 iteB (decide (v ≥ (v_1.len : Int))) (
 K0 true h0
 ) (
 nilChk t0 fun a_1 =>
 loadS C_sl_sl_sl_sl_sl 5 a_1 h0 fun v_2 =>
 tableau_Row v_2 v h0 fun v_3 h2 =>
 K0 (decide (v_3 ≥ 0)) h2
 )
 )
 ) (fun t0u1 h1 =>
 iteB t0u1 (
 Q 2 h1
 ) (
 seq (fun (K0u1 : (Bool × Sl × Sl × Bool × Sl × Sl) → Heap → Prop) =>
 nilChk t0 fun a_2 =>
 Lift.load Sl.toV (a_2.add 2) h1 fun v_4 =>
 idxS v_4 v 6 fun a_3 =>
 loadS C_bool_sl_sl_bool_sl_sl 6 a_3 h1 fun v_5 =>
 mem h1 fun h4 =>
 delta_Sub b x0 v_5 h4 fun v_7 h7 =>
 mem h7 fun h8 =>
 K0u1 v_7 h8
 ) (fun t0u2 h3 =>
 nilChk t0 fun a_4 =>
 Lift.load Sl.toV (a_4.add 2) h3 fun v_8 =>
 idxS v_8 v 6 fun a_5 =>
 storeS a_5 [Value.bool x0.1, Sl.toV x0.2.1, Sl.toV x0.2.2.1, Value.bool x0.2.2.2.1, Sl.toV x0.2.2.2.2.1, Sl.toV x0.2.2.2.2.2] h3 fun h9 =>
 nilChk t0 fun a_6 =>
 Lift.load Sl.toV (a_6.add 1) h9 fun v_9 =>
 loop (fun (s0 : Int) h10 (K0u2 : Int → Heap → Prop) =>
 iteB (decide (s0 < (v_9.len : Int))) (
 seq (fun (K0u3 : Unit → Heap → Prop) =>
 idxS v_9 s0 4 fun a_7 =>
 loadS C_bool_sl_sl_sl 4 a_7 h10 fun v_10 =>
 mem h10 fun h12 =>
 tableau_coef v_10 v h12 fun v_11 h13 =>
 mem h13 fun h14 =>
 ratio_Sign v_11 h14 fun v_12 h15 =>
 iteB (v_12 != 0) (
 nilChk t0 fun a_8 =>
 Lift.load Sl.toV (a_8.add 0) h15 fun v_13 =>
 idxS v_13 s0 1 fun a_9 =>
 Lift.load (Value.int .i64) a_9 h15 fun v_14 =>
 nilChk t0 fun a_10 =>
 Lift.load Sl.toV (a_10.add 2) h15 fun v_15 =>
 nilChk t0 fun a_11 =>
 Lift.load Sl.toV (a_11.add 2) h15 fun v_16 =>
 idxS v_16 v_14 6 fun a_12 =>
 loadS C_bool_sl_sl_bool_sl_sl 6 a_12 h15 fun v_17 =>
 delta_Scale b v_11 t0u2 h15 fun v_18 h16 =>
 (cell? h16 (a_10.add 2) = some (Sl.toV v_15)) ∧
 (cell? h16 (a_11.add 2) = some (Sl.toV v_16)) ∧
 (cells? h16 a_12 6 0 = some [Value.bool v_17.1, Sl.toV v_17.2.1, Sl.toV v_17.2.2.1, Value.bool v_17.2.2.2.1, Sl.toV v_17.2.2.2.2.1, Sl.toV v_17.2.2.2.2.2]) ∧
 delta_Add b v_17 v_18 h16 fun v_19 h17 =>
 (cell? h17 (a_10.add 2) = some (Sl.toV v_15)) ∧
 idxS v_15 v_14 6 fun a_13 =>
 storeS a_13 [Value.bool v_19.1, Sl.toV v_19.2.1, Sl.toV v_19.2.2.1, Value.bool v_19.2.2.2.1, Sl.toV v_19.2.2.2.2.1, Sl.toV v_19.2.2.2.2.2] h17 fun h18 =>
 K0u3 () h18
 ) (
 K0u3 () h15
 )
 ) (fun t0u3 h11 =>
 K0u2 (IntKind.wrap .i64 (s0 + 1)) h11
 )
 ) (
 tableau_over b h10 fun v_20 h19 =>
 Q v_20 h19
 )
 ) 0 h9
 )
 )
 )
def ref14uRow (t0 : Sl × Sl × Sl × Sl × Sl) (v : Int) (h : Heap) (Q : Int → Heap → Prop) : Prop :=
 mem h fun h0 =>
 loop (fun (s0 : Int) h1 (K0 : Int → Heap → Prop) =>
 iteB (decide (s0 < (t0.1.len : Int))) (
 idxS t0.1 s0 1 fun a =>
 Lift.load (Value.int .i64) a h1 fun v_1 =>
 iteB (v_1 == v) (
 Q s0 h1
 ) (
 Let (IntKind.wrap .i64 (s0 + 1) : Int) fun i =>
 K0 i h1
 )
 ) (
 Q (-1) h1
 )
 ) 0 h0
def ref03uOf (x0 : Bool × Sl × Sl × Bool × Sl × Sl) (h : Heap) (Q : (Bool × Sl × Sl × Bool × Sl × Sl) → Heap → Prop) : Prop :=
 mem h fun h0 =>
 ref02uOf (x0.1, x0.2.1, x0.2.2.1) h0 fun v h1 =>
 ref02uOf (x0.2.2.2.1, x0.2.2.2.2.1, x0.2.2.2.2.2) h1 fun v_1 h2 =>
 Q (v.1, v.2.1, v.2.2, v_1.1, v_1.2.1, v_1.2.2) h2
def ref01uMul (x0 : Sl) (y : Sl) (h : Heap) (Q : Sl → Heap → Prop) : Prop :=
 Let (IntKind.wrap .i64 ((IntKind.wrap .i64 ((x0.len : Int) + (y.len : Int))) + 1) : Int) fun t15 =>
 mkS [Value.int .i64 0] 8 t15 t15 h fun v h0 =>
 loop (fun (s0 : Int) h1 (K0 : Int → Heap → Prop) =>
 iteB (decide (s0 < (x0.len : Int))) (
 loop (fun (s0u1 : Int × Int) h2 (K0u1 : (Int × Int) → Heap → Prop) =>
 seq (fun (K0u2 : Bool → Heap → Prop) =>
 iteB (decide (s0u1.2 < (y.len : Int))) (
 K0u2 true h2
 ) (
 K0u2 (decide (s0u1.1 > 0)) h2
 )
 ) (fun t0 h3 =>
 iteB t0 (
 idxS v (IntKind.wrap .i64 (s0 + s0u1.2)) 1 fun a =>
 Lift.load (Value.int .i64) a h3 fun v_1 =>
 Let (IntKind.wrap .i64 (v_1 + s0u1.1) : Int) fun n =>
 seq (fun (K0u3 : Int → Heap → Prop) =>
 iteB (decide (s0u1.2 < (y.len : Int))) (
 idxS x0 s0 1 fun a_1 =>
 Lift.load (Value.int .i64) a_1 h3 fun v_2 =>
 idxS y s0u1.2 1 fun a_2 =>
 Lift.load (Value.int .i64) a_2 h3 fun v_3 =>
 Let (IntKind.wrap .i64 (n + (IntKind.wrap .i64 (v_2 * v_3))) : Int) fun n_1 =>
 K0u3 n_1 h3
 ) (
 K0u3 n h3
 )
 ) (fun t0u1 h4 =>
 idxS v (IntKind.wrap .i64 (s0 + s0u1.2)) 1 fun a_3 =>
 Lift.store a_3 (Value.int .i64 (Int.tmod t0u1 10)) h4 fun h5 =>
 Let (IntKind.wrap .i64 (Int.tdiv t0u1 10) : Int) fun carry =>
 Let (IntKind.wrap .i64 (s0u1.2 + 1) : Int) fun k =>
 K0u1 (carry, k) h5
 )
 ) (
 Let (IntKind.wrap .i64 (s0 + 1) : Int) fun i =>
 K0 i h3
 )
 )
 ) (0, 0) h1
 ) (
 ref01uCut v h1 fun v_4 h6 =>
 Q v_4 h6
 )
 ) 0 h0
def ref02uMul (x0 : Bool × Sl × Sl) (y : Bool × Sl × Sl) (h : Heap) (Q : (Bool × Sl × Sl) → Heap → Prop) : Prop :=
 mem h fun h0 =>
 ref01uMul x0.2.1 y.2.1 h0 fun v h1 =>
 ref01uMul x0.2.2 y.2.2 h1 fun v_1 h2 =>
 ref02uLow ((!(x0.1 == y.1)), v, v_1) h2 fun v_2 h3 =>
 Q v_2 h3
def ref03uScale (k : Bool × Sl × Sl) (x0 : Bool × Sl × Sl × Bool × Sl × Sl) (h : Heap) (Q : (Bool × Sl × Sl × Bool × Sl × Sl) → Heap → Prop) : Prop :=
 mem h fun h0 =>
 ref02uMul k (x0.1, x0.2.1, x0.2.2.1) h0 fun v h1 =>
 ref02uMul k (x0.2.2.2.1, x0.2.2.2.2.1, x0.2.2.2.2.2) h1 fun v_1 h2 =>
 Q (v.1, v.2.1, v.2.2, v_1.1, v_1.2.1, v_1.2.2) h2
def ref01uAdd (x0 : Sl) (y : Sl) (h : Heap) (Q : Sl → Heap → Prop) : Prop :=
 new [] h fun a h0 =>
 Let ((⟨some a, 0, 0⟩ : Sl) : Sl) fun out =>
 loop (fun (s0 : Sl × Int × Int) h1 (K0 : (Sl × Int × Int) → Heap → Prop) =>
 seq (fun (K0u1 : Bool → Heap → Prop) =>
 iteB (decide (s0.2.2 < (x0.len : Int))) (
 K0u1 true h1
 ) (
 iteB (decide (s0.2.2 < (y.len : Int))) (
 K0u1 true h1
 ) (
 K0u1 (decide (s0.2.1 > 0)) h1
 )
 )
 ) (fun t0 h2 =>
 iteB t0 (
 seq (fun (K0u2 : Int → Heap → Prop) =>
 iteB (decide (s0.2.2 < (x0.len : Int))) (
 idxS x0 s0.2.2 1 fun a_1 =>
 Lift.load (Value.int .i64) a_1 h2 fun v_1 =>
 Let (IntKind.wrap .i64 (s0.2.1 + v_1) : Int) fun n =>
 K0u2 n h2
 ) (
 K0u2 s0.2.1 h2
 )
 ) (fun t0u1 h3 =>
 seq (fun (K0u3 : Int → Heap → Prop) =>
 iteB (decide (s0.2.2 < (y.len : Int))) (
 idxS y s0.2.2 1 fun a_2 =>
 Lift.load (Value.int .i64) a_2 h3 fun v_2 =>
 Let (IntKind.wrap .i64 (t0u1 + v_2) : Int) fun n_1 =>
 K0u3 n_1 h3
 ) (
 K0u3 t0u1 h3
 )
 ) (fun t0u2 h4 =>
 new [Value.int .i64 (Int.tmod t0u2 10)] h4 fun a_3 h5 =>
 appendS 1 8 s0.1 (⟨some a_3, 1, 1⟩ : Sl) h5 fun v_4 h6 =>
 Let (IntKind.wrap .i64 (Int.tdiv t0u2 10) : Int) fun carry =>
 Let (IntKind.wrap .i64 (s0.2.2 + 1) : Int) fun i =>
 K0 (v_4, carry, i) h6
 )
 )
 ) (
 ref01uCut s0.1 h2 fun v_5 h7 =>
 Q v_5 h7
 )
 )
 ) (out, 0, 0) h0
def ref02uAdd (x0 : Bool × Sl × Sl) (y : Bool × Sl × Sl) (h : Heap) (Q : (Bool × Sl × Sl) → Heap → Prop) : Prop :=
 mem h fun h0 =>
 ref01uMul x0.2.1 y.2.2 h0 fun v h1 =>
 ref01uMul y.2.1 x0.2.2 h1 fun v_1 h2 =>
 ref01uMul x0.2.2 y.2.2 h2 fun v_2 h3 =>
 iteB (x0.1 == y.1) (
 ref01uAdd v v_1 h3 fun v_3 h4 =>
 ref02uLow (x0.1, v_3, v_2) h4 fun v_4 h5 =>
 Q v_4 h5
 ) (
 ref01uCmp v v_1 h3 fun v_5 h6 =>
 iteB (decide (v_5 ≥ 0)) (
 ref01uSub v v_1 h6 fun v_6 h7 =>
 ref02uLow (x0.1, v_6, v_2) h7 fun v_7 h8 =>
 Q v_7 h8
 ) (
 ref01uSub v_1 v h6 fun v_8 h9 =>
 ref02uLow (y.1, v_8, v_2) h9 fun v_9 h10 =>
 Q v_9 h10
 )
 )
def ref03uAdd (x0 : Bool × Sl × Sl × Bool × Sl × Sl) (y : Bool × Sl × Sl × Bool × Sl × Sl) (h : Heap) (Q : (Bool × Sl × Sl × Bool × Sl × Sl) → Heap → Prop) : Prop :=
 mem h fun h0 =>
 ref02uAdd (x0.1, x0.2.1, x0.2.2.1) (y.1, y.2.1, y.2.2.1) h0 fun v h1 =>
 ref02uAdd (x0.2.2.2.1, x0.2.2.2.2.1, x0.2.2.2.2.2) (y.2.2.2.1, y.2.2.2.2.1, y.2.2.2.2.2) h1 fun v_1 h2 =>
 Q (v.1, v.2.1, v.2.2, v_1.1, v_1.2.1, v_1.2.2) h2
def ref14uValue (p : Bool × Sl × Sl × Sl) (l : Sl) (h : Heap) (Q : (Bool × Sl × Sl × Bool × Sl × Sl) → Heap → Prop) : Prop :=
 mem h fun h0 =>
 ref03uOf (false, Sl.nil, Sl.nil, false, Sl.nil, Sl.nil) h0 fun v h1 =>
 mem h1 fun h2 =>
 loop (fun (s0 : Int × Bool × Sl × Sl × Bool × Sl × Sl) h3 (K0 : (Int × Bool × Sl × Sl × Bool × Sl × Sl) → Heap → Prop) =>
 iteB (decide (s0.1 < (p.2.2.2.len : Int))) (
 idxS p.2.2.2 s0.1 4 fun a =>
 loadS C_bool_sl_sl 3 (a.add 1) h3 fun v_1 =>
 idxS p.2.2.2 s0.1 4 fun a_1 =>
 Lift.load (Value.int .i64) (a_1.add 0) h3 fun v_2 =>
 idxS l v_2 6 fun a_2 =>
 loadS C_bool_sl_sl_bool_sl_sl 6 a_2 h3 fun v_3 =>
 ref02uOf v_1 h3 fun v_4 h4 =>
 (cell? h4 (a_1.add 0) = some (Value.int .i64 v_2)) ∧
 (cells? h4 a_2 6 0 = some [Value.bool v_3.1, Sl.toV v_3.2.1, Sl.toV v_3.2.2.1, Value.bool v_3.2.2.2.1, Sl.toV v_3.2.2.2.2.1, Sl.toV v_3.2.2.2.2.2]) ∧
 ref03uOf v_3 h4 fun v_5 h5 =>
 ref03uScale v_4 v_5 h5 fun v_6 h6 =>
 ref03uAdd (s0.2.1, s0.2.2.1, s0.2.2.2.1, s0.2.2.2.2.1, s0.2.2.2.2.2.1, s0.2.2.2.2.2.2) v_6 h6 fun v_7 h7 =>
 Let (IntKind.wrap .i64 (s0.1 + 1) : Int) fun i =>
 K0 (i, v_7.1, v_7.2.1, v_7.2.2.1, v_7.2.2.2.1, v_7.2.2.2.2.1, v_7.2.2.2.2.2) h7
 ) (
 Q (s0.2.1, s0.2.2.1, s0.2.2.2.1, s0.2.2.2.2.1, s0.2.2.2.2.2.1, s0.2.2.2.2.2.2) h3
 )
 ) (0, v.1, v.2.1, v.2.2.1, v.2.2.2.1, v.2.2.2.2.1, v.2.2.2.2.2) h2
def ref03uForm (x0 : Bool × Sl × Sl × Bool × Sl × Sl) (h : Heap) (Q : (Bool × Sl × Sl × Bool × Sl × Sl) → Heap → Prop) : Prop :=
 mem h fun h0 =>
 ref02uForm (x0.1, x0.2.1, x0.2.2.1) h0 fun v h1 =>
 ref02uForm (x0.2.2.2.1, x0.2.2.2.2.1, x0.2.2.2.2.2) h1 fun v_1 h2 =>
 Q (v.1, v.2.1, v.2.2, v_1.1, v_1.2.1, v_1.2.2) h2
def ref14uUpdate (t0 : Sl × Sl × Sl × Sl × Sl) (v : Int) (x0 : Bool × Sl × Sl × Bool × Sl × Sl) (h : Heap) (Q : ((Sl × Sl × Sl × Sl × Sl) × Int) → Heap → Prop) : Prop :=
 mem h fun h0 =>
 seq (fun (K0 : Bool → Heap → Prop) =>
 iteB (decide (v < 0)) (
 K0 true h0
 ) (
 iteB (decide (v ≥ (t0.2.2.1.len : Int))) (
 K0 true h0
 ) (
 ref14uRow t0 v h0 fun v_1 h2 =>
 K0 (decide (v_1 ≥ 0)) h2
 )
 )
 ) (fun t0u1 h1 =>
 iteB t0u1 (
 Q (t0, 2) h1
 ) (
 new [] h1 fun a h3 =>
 appendS 6 112 (⟨some a, 0, 0⟩ : Sl) t0.2.2.1 h3 fun v_3 h4 =>
 idxS v_3 v 6 fun a_1 =>
 storeS a_1 [Value.bool x0.1, Sl.toV x0.2.1, Sl.toV x0.2.2.1, Value.bool x0.2.2.2.1, Sl.toV x0.2.2.2.2.1, Sl.toV x0.2.2.2.2.2] h4 fun h5 =>
 loop (fun (s0 : Int) h6 (K0u1 : Int → Heap → Prop) =>
 iteB (decide (s0 < (t0.2.1.len : Int))) (
 idxS t0.1 s0 1 fun a_2 =>
 Lift.load (Value.int .i64) a_2 h6 fun v_4 =>
 idxS t0.2.1 s0 4 fun a_3 =>
 loadS C_bool_sl_sl_sl 4 a_3 h6 fun v_5 =>
 ref14uValue v_5 v_3 h6 fun v_6 h7 =>
 (cell? h7 a_2 = some (Value.int .i64 v_4)) ∧
 ref03uForm v_6 h7 fun v_7 h8 =>
 (cell? h8 a_2 = some (Value.int .i64 v_4)) ∧
 idxS v_3 v_4 6 fun a_4 =>
 storeS a_4 [Value.bool v_7.1, Sl.toV v_7.2.1, Sl.toV v_7.2.2.1, Value.bool v_7.2.2.2.1, Sl.toV v_7.2.2.2.2.1, Sl.toV v_7.2.2.2.2.2] h8 fun h9 =>
 Let (IntKind.wrap .i64 (s0 + 1) : Int) fun i =>
 K0u1 i h9
 ) (
 Q ((t0.1, t0.2.1, v_3, t0.2.2.2.1, t0.2.2.2.2), 0) h6
 )
 ) 0 h5
 )
 )
def ref12uCoef (p : Bool × Sl × Sl × Sl) (v : Int) (h : Heap) (Q : (Bool × Sl × Sl) → Heap → Prop) : Prop :=
 mem h fun h0 =>
 loop (fun (s0 : Int × Bool × Sl × Sl) h1 (K0 : (Int × Bool × Sl × Sl) → Heap → Prop) =>
 iteB (decide (s0.1 < (p.2.2.2.len : Int))) (
 idxS p.2.2.2 s0.1 4 fun a =>
 Lift.load (Value.int .i64) (a.add 0) h1 fun v_1 =>
 iteB (v_1 == v) (
 idxS p.2.2.2 s0.1 4 fun a_1 =>
 loadS C_bool_sl_sl 3 (a_1.add 1) h1 fun v_2 =>
 ref02uOf v_2 h1 fun v_3 h2 =>
 Q v_3 h2
 ) (
 Let (IntKind.wrap .i64 (s0.1 + 1) : Int) fun i =>
 K0 (i, s0.2.1, s0.2.2.1, s0.2.2.2) h1
 )
 ) (
 ref02uInt 0 h1 fun v_4 h3 =>
 Q v_4 h3
 )
 ) (0, false, Sl.nil, Sl.nil) h0
def ref12uAdd (p : Bool × Sl × Sl × Sl) (k : Bool × Sl × Sl) (q : Bool × Sl × Sl × Sl) (h : Heap) (Q : (Bool × Sl × Sl × Sl) → Heap → Prop) : Prop :=
 mem h fun h0 =>
 seq (fun (K0 : (Bool × Sl × Sl × Sl) → Heap → Prop) =>
 mem h0 fun h2 =>
 ref02uOf (p.1, p.2.1, p.2.2.1) h2 fun v_15 h33 =>
 mem h33 fun h34 =>
 ref02uOf (q.1, q.2.1, q.2.2.1) h34 fun v_16 h35 =>
 mem h35 fun h36 =>
 ref02uMul k v_16 h36 fun v_17 h37 =>
 mem h37 fun h38 =>
 ref02uAdd v_15 v_17 h38 fun v_18 h39 =>
 mem h39 fun h40 =>
 ref02uForm v_18 h40 fun v_19 h41 =>
 mem h41 fun h42 =>
 K0 (v_19.1, v_19.2.1, v_19.2.2, Sl.nil) h42
 ) (fun t0 h1 =>
 new [] h1 fun a h43 =>
 Let ((⟨some a, 0, 0⟩ : Sl) : Sl) fun vars =>
 loop (fun (s0 : Sl × Int × Int) h44 (K0u1 : (Sl × Int × Int) → Heap → Prop) =>
 seq (fun (K0u2 : Bool → Heap → Prop) =>
 iteB (decide (s0.2.1 < (p.2.2.2.len : Int))) (
 K0u2 true h44
 ) (
 K0u2 (decide (s0.2.2 < (q.2.2.2.len : Int))) h44
 )
 ) (fun t0u1 h45 =>
 iteB t0u1 (
 seq (fun (K0u3 : Bool → Heap → Prop) =>
 iteB (s0.2.2 == (q.2.2.2.len : Int)) (
 K0u3 true h45
 ) (
 iteB (decide (s0.2.1 < (p.2.2.2.len : Int))) (
 idxS p.2.2.2 s0.2.1 4 fun a_1 =>
 Lift.load (Value.int .i64) (a_1.add 0) h45 fun v_21 =>
 idxS q.2.2.2 s0.2.2 4 fun a_2 =>
 Lift.load (Value.int .i64) (a_2.add 0) h45 fun v_22 =>
 K0u3 (decide (v_21 ≤ v_22)) h45
 ) (
 K0u3 false h45
 )
 )
 ) (fun t0u2 h46 =>
 iteB t0u2 (
 idxS p.2.2.2 s0.2.1 4 fun a_3 =>
 Lift.load (Value.int .i64) (a_3.add 0) h46 fun v_23 =>
 new [Value.int .i64 v_23] h46 fun a_4 h47 =>
 appendS 1 8 s0.1 (⟨some a_4, 1, 1⟩ : Sl) h47 fun v_25 h48 =>
 seq (fun (K0u4 : Int → Heap → Prop) =>
 seq (fun (K0u5 : Bool → Heap → Prop) =>
 iteB (decide (s0.2.2 < (q.2.2.2.len : Int))) (
 idxS p.2.2.2 s0.2.1 4 fun a_5 =>
 Lift.load (Value.int .i64) (a_5.add 0) h48 fun v_26 =>
 idxS q.2.2.2 s0.2.2 4 fun a_6 =>
 Lift.load (Value.int .i64) (a_6.add 0) h48 fun v_27 =>
 K0u5 (v_26 == v_27) h48
 ) (
 K0u5 false h48
 )
 ) (fun t0u4 h50 =>
 iteB t0u4 (
 Let (IntKind.wrap .i64 (s0.2.2 + 1) : Int) fun j =>
 K0u4 j h50
 ) (
 K0u4 s0.2.2 h50
 )
 )
 ) (fun t0u3 h49 =>
 Let (IntKind.wrap .i64 (s0.2.1 + 1) : Int) fun i =>
 K0u1 (v_25, i, t0u3) h49
 )
 ) (
 idxS q.2.2.2 s0.2.2 4 fun a_7 =>
 Lift.load (Value.int .i64) (a_7.add 0) h46 fun v_28 =>
 new [Value.int .i64 v_28] h46 fun a_8 h51 =>
 appendS 1 8 s0.1 (⟨some a_8, 1, 1⟩ : Sl) h51 fun v_30 h52 =>
 Let (IntKind.wrap .i64 (s0.2.2 + 1) : Int) fun j_1 =>
 K0u1 (v_30, s0.2.1, j_1) h52
 )
 )
 ) (
 loop (fun (s0u1 : Int × Bool × Sl × Sl × Sl) h53 (K0u6 : (Int × Bool × Sl × Sl × Sl) → Heap → Prop) =>
 iteB (decide (s0u1.1 < (s0.1.len : Int))) (
 seq (fun (K0u7 : (Bool × Sl × Sl × Sl) → Heap → Prop) =>
 seq (fun (K0u8 : (Bool × Sl × Sl) → Heap → Prop) =>
 idxS s0.1 s0u1.1 1 fun a_9 =>
 Lift.load (Value.int .i64) a_9 h53 fun v_31 =>
 idxS s0.1 s0u1.1 1 fun a_10 =>
 Lift.load (Value.int .i64) a_10 h53 fun v_32 =>
 mem h53 fun h56 =>
 ref12uCoef p v_31 h56 fun v_43 h77 =>
 (cell? h77 a_10 = some (Value.int .i64 v_32)) ∧
 mem h77 fun h78 =>
 ref12uCoef q v_32 h78 fun v_44 h79 =>
 mem h79 fun h80 =>
 ref02uMul k v_44 h80 fun v_45 h81 =>
 mem h81 fun h82 =>
 ref02uAdd v_43 v_45 h82 fun v_46 h83 =>
 mem h83 fun h84 =>
 K0u8 v_46 h84
 ) (fun t0u6 h55 =>
 iteB (decide ((t0u6.2.1.len : Int) > 0)) (
 idxS s0.1 s0u1.1 1 fun a_11 =>
 Lift.load (Value.int .i64) a_11 h55 fun v_47 =>
 ref02uForm t0u6 h55 fun v_48 h85 =>
 (cell? h85 a_11 = some (Value.int .i64 v_47)) ∧
 new [Value.int .i64 v_47, Value.bool v_48.1, Sl.toV v_48.2.1, Sl.toV v_48.2.2] h85 fun a_12 h86 =>
 appendS 4 64 s0u1.2.2.2.2 (⟨some a_12, 1, 1⟩ : Sl) h86 fun v_50 h87 =>
 K0u7 (s0u1.2.1, s0u1.2.2.1, s0u1.2.2.2.1, v_50) h87
 ) (
 K0u7 (s0u1.2.1, s0u1.2.2.1, s0u1.2.2.2.1, s0u1.2.2.2.2) h55
 )
 )
 ) (fun t0u5 h54 =>
 Let (IntKind.wrap .i64 (s0u1.1 + 1) : Int) fun n =>
 K0u6 (n, t0u5.1, t0u5.2.1, t0u5.2.2.1, t0u5.2.2.2) h54
 )
 ) (
 Q (s0u1.2.1, s0u1.2.2.1, s0u1.2.2.2.1, s0u1.2.2.2.2) h53
 )
 ) (0, t0.1, t0.2.1, t0.2.2.1, t0.2.2.2) h45
 )
 )
 ) (vars, 0, 0) h43
 )
def ref02uDiv (x0 : Bool × Sl × Sl) (y : Bool × Sl × Sl) (h : Heap) (Q : (Bool × Sl × Sl) → Heap → Prop) : Prop :=
 mem h fun h0 =>
 iteB ((y.2.1.len : Int) == 0) (
 ref02uInt 0 h0 fun v h1 =>
 Q v h1
 ) (
 ref01uMul x0.2.1 y.2.2 h0 fun v_1 h2 =>
 ref01uMul x0.2.2 y.2.1 h2 fun v_2 h3 =>
 ref02uLow ((!(x0.1 == y.1)), v_1, v_2) h3 fun v_3 h4 =>
 Q v_3 h4
 )
def ref02uNeg (x0 : Bool × Sl × Sl) (h : Heap) (Q : (Bool × Sl × Sl) → Heap → Prop) : Prop :=
 mem h fun h0 =>
 seq (fun (K0 : (Bool × Sl × Sl) → Heap → Prop) =>
 iteB (!x0.1) (
 K0 (decide ((x0.2.1.len : Int) > 0), x0.2.1, x0.2.2) h0
 ) (
 K0 (false, x0.2.1, x0.2.2) h0
 )
 ) (fun t0 h1 =>
 Q t0 h1
 )
def ref14uPivot (t0 : Sl × Sl × Sl × Sl × Sl) (row : Int) (v : Int) (h : Heap) (Q : ((Sl × Sl × Sl × Sl × Sl) × Int) → Heap → Prop) : Prop :=
 mem h fun h0 =>
 seq (fun (K0 : Bool → Heap → Prop) =>
 iteB (decide (row < 0)) (
 K0 true h0
 ) (
 K0 (decide (row ≥ (t0.2.1.len : Int))) h0
 )
 ) (fun t0u1 h1 =>
 iteB t0u1 (
 Q (t0, 2) h1
 ) (
 idxS t0.2.1 row 4 fun a =>
 loadS C_bool_sl_sl_sl 4 a h1 fun v_1 =>
 ref12uCoef v_1 v h1 fun v_2 h2 =>
 mem h2 fun h3 =>
 iteB ((v_2.2.1.len : Int) == 0) (
 Q (t0, 1) h3
 ) (
 idxS t0.1 row 1 fun a_1 =>
 Lift.load (Value.int .i64) a_1 h3 fun v_3 =>
 ref02uInt 1 h3 fun v_4 h4 =>
 mem h4 fun h5 =>
 seq (fun (K0u1 : (Bool × Sl × Sl × Sl) → Heap → Prop) =>
 idxS t0.2.1 row 4 fun a_2 =>
 loadS C_bool_sl_sl_sl 4 a_2 h5 fun v_5 =>
 mem h5 fun h7 =>
 ref02uInt (-1) h7 fun v_16 h28 =>
 (cells? h28 a_2 4 0 = some [Value.bool v_5.1, Sl.toV v_5.2.1, Sl.toV v_5.2.2.1, Sl.toV v_5.2.2.2]) ∧
 mem h28 fun h29 =>
 ref02uForm v_4 h29 fun v_17 h30 =>
 (cells? h30 a_2 4 0 = some [Value.bool v_5.1, Sl.toV v_5.2.1, Sl.toV v_5.2.2.1, Sl.toV v_5.2.2.2]) ∧
 mem h30 fun h31 =>
 new [Value.int .i64 v_3, Value.bool v_17.1, Sl.toV v_17.2.1, Sl.toV v_17.2.2] h31 fun a_6 h32 =>
 (cells? h32 a_2 4 0 = some [Value.bool v_5.1, Sl.toV v_5.2.1, Sl.toV v_5.2.2.1, Sl.toV v_5.2.2.2]) ∧
 mem h32 fun h33 =>
 ref12uAdd v_5 v_16 (false, Sl.nil, Sl.nil, (⟨some a_6, 1, 1⟩ : Sl)) h33 fun v_19 h34 =>
 mem h34 fun h35 =>
 K0u1 v_19 h35
 ) (fun t0u2 h6 =>
 ref02uDiv v_4 v_2 h6 fun v_20 h36 =>
 ref02uNeg v_20 h36 fun v_21 h37 =>
 mem h37 fun h38 =>
 seq (fun (K0u2 : (Bool × Sl × Sl × Sl) → Heap → Prop) =>
 mem h38 fun h40 =>
 ref02uForm v_4 h40 fun v_28 h53 =>
 mem h53 fun h54 =>
 new [Value.int .i64 v, Value.bool v_28.1, Sl.toV v_28.2.1, Sl.toV v_28.2.2] h54 fun a_9 h55 =>
 mem h55 fun h56 =>
 ref12uAdd (false, Sl.nil, Sl.nil, (⟨some a_9, 1, 1⟩ : Sl)) v_21 t0u2 h56 fun v_30 h57 =>
 mem h57 fun h58 =>
 K0u2 v_30 h58
 ) (fun t0u3 h39 =>
 new [] h39 fun a_10 h59 =>
 Let ((⟨some a_10, 0, 0⟩ : Sl) : Sl) fun rows =>
 loop (fun (s0 : Sl × Int) h60 (K0u3 : (Sl × Int) → Heap → Prop) =>
 iteB (decide (s0.2 < (t0.2.1.len : Int))) (
 seq (fun (K0u4 : Sl → Heap → Prop) =>
 iteB (s0.2 == row) (
 new [Value.bool t0u3.1, Sl.toV t0u3.2.1, Sl.toV t0u3.2.2.1, Sl.toV t0u3.2.2.2] h60 fun a_11 h62 =>
 appendS 4 80 s0.1 (⟨some a_11, 1, 1⟩ : Sl) h62 fun v_33 h63 =>
 K0u4 v_33 h63
 ) (
 idxS t0.2.1 s0.2 4 fun a_12 =>
 loadS C_bool_sl_sl_sl 4 a_12 h60 fun v_34 =>
 ref12uCoef v_34 v h60 fun v_35 h64 =>
 mem h64 fun h65 =>
 seq (fun (K0u5 : (Bool × Sl × Sl × Sl) → Heap → Prop) =>
 idxS t0.2.1 s0.2 4 fun a_13 =>
 loadS C_bool_sl_sl_sl 4 a_13 h65 fun v_36 =>
 mem h65 fun h67 =>
 ref02uNeg v_35 h67 fun v_47 h88 =>
 (cells? h88 a_13 4 0 = some [Value.bool v_36.1, Sl.toV v_36.2.1, Sl.toV v_36.2.2.1, Sl.toV v_36.2.2.2]) ∧
 mem h88 fun h89 =>
 ref02uForm v_4 h89 fun v_48 h90 =>
 (cells? h90 a_13 4 0 = some [Value.bool v_36.1, Sl.toV v_36.2.1, Sl.toV v_36.2.2.1, Sl.toV v_36.2.2.2]) ∧
 mem h90 fun h91 =>
 new [Value.int .i64 v, Value.bool v_48.1, Sl.toV v_48.2.1, Sl.toV v_48.2.2] h91 fun a_17 h92 =>
 (cells? h92 a_13 4 0 = some [Value.bool v_36.1, Sl.toV v_36.2.1, Sl.toV v_36.2.2.1, Sl.toV v_36.2.2.2]) ∧
 mem h92 fun h93 =>
 ref12uAdd v_36 v_47 (false, Sl.nil, Sl.nil, (⟨some a_17, 1, 1⟩ : Sl)) h93 fun v_50 h94 =>
 mem h94 fun h95 =>
 K0u5 v_50 h95
 ) (fun t0u5 h66 =>
 ref12uAdd t0u5 v_35 t0u3 h66 fun v_51 h96 =>
 new [Value.bool v_51.1, Sl.toV v_51.2.1, Sl.toV v_51.2.2.1, Sl.toV v_51.2.2.2] h96 fun a_18 h97 =>
 appendS 4 80 s0.1 (⟨some a_18, 1, 1⟩ : Sl) h97 fun v_53 h98 =>
 K0u4 v_53 h98
 )
 )
 ) (fun t0u4 h61 =>
 Let (IntKind.wrap .i64 (s0.2 + 1) : Int) fun i =>
 K0u3 (t0u4, i) h61
 )
 ) (
 new [] h60 fun a_19 h99 =>
 appendS 1 8 (⟨some a_19, 0, 0⟩ : Sl) t0.1 h99 fun v_55 h100 =>
 idxS v_55 row 1 fun a_20 =>
 Lift.store a_20 (Value.int .i64 v) h100 fun h101 =>
 Q ((v_55, s0.1, t0.2.2.1, t0.2.2.2.1, t0.2.2.2.2), 0) h101
 )
 ) (rows, 0) h59
 )
 )
 )
 )
 )
def ref12uSame (p : Bool × Sl × Sl × Sl) (q : Bool × Sl × Sl × Sl) (h : Heap) (Q : Bool → Heap → Prop) : Prop :=
 mem h fun h0 =>
 seq (fun (K0 : Bool → Heap → Prop) =>
 ref02uSame (p.1, p.2.1, p.2.2.1) (q.1, q.2.1, q.2.2.1) h0 fun v h2 =>
 iteB (!v) (
 K0 true h2
 ) (
 K0 ((p.2.2.2.len : Int) != (q.2.2.2.len : Int)) h2
 )
 ) (fun t0 h1 =>
 iteB t0 (
 Q false h1
 ) (
 loop (fun (s0 : Int) h3 (K0u1 : Int → Heap → Prop) =>
 iteB (decide (s0 < (p.2.2.2.len : Int))) (
 seq (fun (K0u2 : Bool → Heap → Prop) =>
 idxS p.2.2.2 s0 4 fun a =>
 Lift.load (Value.int .i64) (a.add 0) h3 fun v_1 =>
 idxS q.2.2.2 s0 4 fun a_1 =>
 Lift.load (Value.int .i64) (a_1.add 0) h3 fun v_2 =>
 iteB (v_1 != v_2) (
 K0u2 true h3
 ) (
 idxS p.2.2.2 s0 4 fun a_2 =>
 loadS C_bool_sl_sl 3 (a_2.add 1) h3 fun v_3 =>
 idxS q.2.2.2 s0 4 fun a_3 =>
 loadS C_bool_sl_sl 3 (a_3.add 1) h3 fun v_4 =>
 ref02uSame v_3 v_4 h3 fun v_5 h5 =>
 K0u2 (!v_5) h5
 )
 ) (fun t0u1 h4 =>
 iteB t0u1 (
 Q false h4
 ) (
 Let (IntKind.wrap .i64 (s0 + 1) : Int) fun i =>
 K0u1 i h4
 )
 )
 ) (
 Q true h3
 )
 ) 0 h1
 )
 )
def ref03uSame (x0 : Bool × Sl × Sl × Bool × Sl × Sl) (y : Bool × Sl × Sl × Bool × Sl × Sl) (h : Heap) (Q : Bool → Heap → Prop) : Prop :=
 mem h fun h0 =>
 seq (fun (K0 : Bool → Heap → Prop) =>
 ref02uSame (x0.1, x0.2.1, x0.2.2.1) (y.1, y.2.1, y.2.2.1) h0 fun v h2 =>
 iteB v (
 ref02uSame (x0.2.2.2.1, x0.2.2.2.2.1, x0.2.2.2.2.2) (y.2.2.2.1, y.2.2.2.2.1, y.2.2.2.2.2) h2 fun v_1 h3 =>
 K0 v_1 h3
 ) (
 K0 false h2
 )
 ) (fun t0 h1 =>
 Q t0 h1
 )
def ref14uSame (s0 : Sl × Sl × Sl × Sl × Sl) (t0 : Sl × Sl × Sl × Sl × Sl) (h : Heap) (Q : Bool → Heap → Prop) : Prop :=
 mem h fun h0 =>
 seq (fun (K0 : Bool → Heap → Prop) =>
 iteB ((s0.1.len : Int) != (t0.1.len : Int)) (
 K0 true h0
 ) (
 iteB ((s0.2.1.len : Int) != (t0.2.1.len : Int)) (
 K0 true h0
 ) (
 iteB ((s0.2.2.1.len : Int) != (t0.2.2.1.len : Int)) (
 K0 true h0
 ) (
 iteB ((s0.2.2.2.1.len : Int) != (t0.2.2.2.1.len : Int)) (
 K0 true h0
 ) (
 K0 ((s0.2.2.2.2.len : Int) != (t0.2.2.2.2.len : Int)) h0
 )
 )
 )
 )
 ) (fun t0u1 h1 =>
 iteB t0u1 (
 Q false h1
 ) (
 loop (fun (s0u1 : Int) h2 (K0u1 : Int → Heap → Prop) =>
 iteB (decide (s0u1 < (s0.1.len : Int))) (
 idxS s0.1 s0u1 1 fun a =>
 Lift.load (Value.int .i64) a h2 fun v =>
 idxS t0.1 s0u1 1 fun a_1 =>
 Lift.load (Value.int .i64) a_1 h2 fun v_1 =>
 iteB (v != v_1) (
 Q false h2
 ) (
 Let (IntKind.wrap .i64 (s0u1 + 1) : Int) fun i =>
 K0u1 i h2
 )
 ) (
 loop (fun (s0u2 : Int) h3 (K0u2 : Int → Heap → Prop) =>
 iteB (decide (s0u2 < (s0.2.1.len : Int))) (
 idxS s0.2.1 s0u2 4 fun a_2 =>
 loadS C_bool_sl_sl_sl 4 a_2 h3 fun v_2 =>
 idxS t0.2.1 s0u2 4 fun a_3 =>
 loadS C_bool_sl_sl_sl 4 a_3 h3 fun v_3 =>
 ref12uSame v_2 v_3 h3 fun v_4 h4 =>
 iteB (!v_4) (
 Q false h4
 ) (
 Let (IntKind.wrap .i64 (s0u2 + 1) : Int) fun i_1 =>
 K0u2 i_1 h4
 )
 ) (
 loop (fun (s0u3 : Int) h5 (K0u3 : Int → Heap → Prop) =>
 iteB (decide (s0u3 < (s0.2.2.1.len : Int))) (
 idxS s0.2.2.1 s0u3 6 fun a_4 =>
 loadS C_bool_sl_sl_bool_sl_sl 6 a_4 h5 fun v_5 =>
 idxS t0.2.2.1 s0u3 6 fun a_5 =>
 loadS C_bool_sl_sl_bool_sl_sl 6 a_5 h5 fun v_6 =>
 ref03uSame v_5 v_6 h5 fun v_7 h6 =>
 iteB (!v_7) (
 Q false h6
 ) (
 Let (IntKind.wrap .i64 (s0u3 + 1) : Int) fun i_2 =>
 K0u3 i_2 h6
 )
 ) (
 loop (fun (s0u4 : Int) h7 (K0u4 : Int → Heap → Prop) =>
 iteB (decide (s0u4 < (s0.2.2.2.1.len : Int))) (
 seq (fun (K0u5 : Bool → Heap → Prop) =>
 idxS s0.2.2.2.1 s0u4 7 fun a_6 =>
 Lift.load (Value.int .i64) (a_6.add 0) h7 fun v_8 =>
 idxS t0.2.2.2.1 s0u4 7 fun a_7 =>
 Lift.load (Value.int .i64) (a_7.add 0) h7 fun v_9 =>
 iteB (v_8 != v_9) (
 K0u5 true h7
 ) (
 idxS s0.2.2.2.1 s0u4 7 fun a_8 =>
 loadS C_bool_sl_sl_bool_sl_sl 6 (a_8.add 1) h7 fun v_10 =>
 idxS t0.2.2.2.1 s0u4 7 fun a_9 =>
 loadS C_bool_sl_sl_bool_sl_sl 6 (a_9.add 1) h7 fun v_11 =>
 ref03uSame v_10 v_11 h7 fun v_12 h9 =>
 K0u5 (!v_12) h9
 )
 ) (fun t0u2 h8 =>
 iteB t0u2 (
 Q false h8
 ) (
 Let (IntKind.wrap .i64 (s0u4 + 1) : Int) fun i_3 =>
 K0u4 i_3 h8
 )
 )
 ) (
 loop (fun (s0u5 : Int) h10 (K0u6 : Int → Heap → Prop) =>
 iteB (decide (s0u5 < (s0.2.2.2.2.len : Int))) (
 seq (fun (K0u7 : Bool → Heap → Prop) =>
 idxS s0.2.2.2.2 s0u5 7 fun a_10 =>
 Lift.load (Value.int .i64) (a_10.add 0) h10 fun v_13 =>
 idxS t0.2.2.2.2 s0u5 7 fun a_11 =>
 Lift.load (Value.int .i64) (a_11.add 0) h10 fun v_14 =>
 iteB (v_13 != v_14) (
 K0u7 true h10
 ) (
 idxS s0.2.2.2.2 s0u5 7 fun a_12 =>
 loadS C_bool_sl_sl_bool_sl_sl 6 (a_12.add 1) h10 fun v_15 =>
 idxS t0.2.2.2.2 s0u5 7 fun a_13 =>
 loadS C_bool_sl_sl_bool_sl_sl 6 (a_13.add 1) h10 fun v_16 =>
 ref03uSame v_15 v_16 h10 fun v_17 h12 =>
 K0u7 (!v_17) h12
 )
 ) (fun t0u3 h11 =>
 iteB t0u3 (
 Q false h11
 ) (
 Let (IntKind.wrap .i64 (s0u5 + 1) : Int) fun i_4 =>
 K0u6 i_4 h11
 )
 )
 ) (
 Q true h10
 )
 ) 0 h7
 )
 ) 0 h5
 )
 ) 0 h3
 )
 ) 0 h2
 )
 ) 0 h1
 )
 )
def nat_Right (x0 : Sl) (h : Heap) (Q : Bool → Heap → Prop) : Prop :=
 nat_trim x0 h fun v h0 =>
 Q ((v.len : Int) == (x0.len : Int)) h0
def ratio_Right (x0 : Bool × Sl × Sl) (h : Heap) (Q : Bool → Heap → Prop) : Prop :=
 mem h fun h0 =>
 seq (fun (K0 : Bool → Heap → Prop) =>
 nat_Right x0.2.1 h0 fun v h2 =>
 iteB (!v) (
 K0 true h2
 ) (
 nat_Right x0.2.2 h2 fun v_1 h3 =>
 iteB (!v_1) (
 K0 true h3
 ) (
 ratio_isOne x0.2.2 h3 fun v_2 h4 =>
 K0 v_2 h4
 )
 )
 ) (fun t0 h1 =>
 iteB t0 (
 Q false h1
 ) (
 iteB ((x0.2.1.len : Int) == 0) (
 seq (fun (K0u1 : Bool → Heap → Prop) =>
 iteB (!x0.1) (
 K0u1 ((x0.2.2.len : Int) == 0) h1
 ) (
 K0u1 false h1
 )
 ) (fun t0u1 h5 =>
 Q t0u1 h5
 )
 ) (
 ratio_free h1 fun v_3 h6 =>
 ratio_den x0 h6 fun v_4 h7 =>
 nat_Bench_Gcd v_3 x0.2.1 v_4 h7 fun v_5 h8 =>
 ratio_isOne v_5 h8 fun v_6 h9 =>
 Q v_6 h9
 )
 )
 )
def tableau_Right_c1 (x0 : Bool × Sl × Sl × Bool × Sl × Sl) (h : Heap) (Q : Bool → Heap → Prop) : Prop :=
 mem h fun h0 =>
 seq (fun (K0 : Bool → Heap → Prop) =>
 ratio_Right (x0.1, x0.2.1, x0.2.2.1) h0 fun v h2 =>
 iteB v (
 ratio_Right (x0.2.2.2.1, x0.2.2.2.2.1, x0.2.2.2.2.2) h2 fun v_1 h3 =>
 K0 v_1 h3
 ) (
 K0 false h2
 )
 ) (fun t0 h1 =>
 Q t0 h1
 )
def tableau_Right_c2 (x0 : Bool × Sl × Sl × Bool × Sl × Sl) (c0 : Addr) (h : Heap) (Q : Bool → Heap → Prop) : Prop :=
 mem h fun h0 =>
 Lift.load FnV.toV c0 h0 fun v =>
 dyn (fun (K0 : Bool → Heap → Prop) =>
 (v = FnV.mk 55 [] [] ∧ tableau_Right_c1 x0 h0 K0)
 ) fun v_1 h1 =>
 Q (!v_1) h1
def slices_IndexFunc_api_Delta_api_Delta__tableau_Right_c2 (s0 : Sl) (f_c : Addr) (h : Heap) (Q : Int → Heap → Prop) : Prop :=
 loop (fun (s0u1 : Int) h0 (K0 : Int → Heap → Prop) =>
 iteB (decide (s0u1 < (s0.len : Int))) (
 idxS s0 s0u1 6 fun a =>
 loadS C_bool_sl_sl_bool_sl_sl 6 a h0 fun v =>
 tableau_Right_c2 v f_c h0 fun v_1 h1 =>
 iteB v_1 (
 Q s0u1 h1
 ) (
 K0 (IntKind.wrap .i64 (s0u1 + 1)) h1
 )
 ) (
 Q (-1) h0
 )
 ) 0 h
def slices_ContainsFunc_api_Delta_api_Delta__tableau_Right_c2 (s0 : Sl) (f_c : Addr) (h : Heap) (Q : Bool → Heap → Prop) : Prop :=
 slices_IndexFunc_api_Delta_api_Delta__tableau_Right_c2 s0 f_c h fun v h0 =>
 Q (decide (v ≥ 0)) h0
def slices_Grow_api_Edge_api_Edge (s0 : Sl) (n : Int) (h : Heap) (Q : Sl → Heap → Prop) : Prop :=
 seq (fun (K0 : Unit → Heap → Prop) =>
 iteB (decide (n < 0)) (
 False
 ) (
 K0 () h
 )
 ) (fun t0 h0 =>
 seq (fun (K0u1 : Sl → Heap → Prop) =>
 Let (IntKind.wrap .i64 (n - (IntKind.wrap .i64 ((s0.cap : Int) - (s0.len : Int)))) : Int) fun n_1 =>
 iteB (decide (n_1 > 0)) (
 sliceOf s0 none (some (s0.cap : Int)) none 7 fun v =>
 appendZ 7 120 [Value.int .i64 0, Value.bool false, Sl.toV Sl.nil, Sl.toV Sl.nil, Value.bool false, Sl.toV Sl.nil, Sl.toV Sl.nil] v n_1 h0 fun v_1 h2 =>
 sliceOf v_1 none (some (s0.len : Int)) none 7 fun v_2 =>
 K0u1 v_2 h2
 ) (
 K0u1 s0 h0
 )
 ) (fun t0u1 h1 =>
 Q t0u1 h1
 )
 )
def slices_Concat_api_Edge_api_Edge (slices : Sl) (h : Heap) (Q : Sl → Heap → Prop) : Prop :=
 loop (fun (s0 : Int × Int) h0 (K0 : (Int × Int) → Heap → Prop) =>
 iteB (decide (s0.2 < (slices.len : Int))) (
 seq (fun (K0u1 : Int → Heap → Prop) =>
 idxS slices s0.2 1 fun a =>
 Lift.load Sl.toV a h0 fun v =>
 Let (IntKind.wrap .i64 (s0.1 + (v.len : Int)) : Int) fun size =>
 iteB (decide (size < 0)) (
 False
 ) (
 K0u1 size h0
 )
 ) (fun t0 h1 =>
 K0 (t0, IntKind.wrap .i64 (s0.2 + 1)) h1
 )
 ) (
 slices_Grow_api_Edge_api_Edge Sl.nil s0.1 h0 fun v_1 h2 =>
 loop (fun (s0u1 : Sl × Int) h3 (K0u2 : (Sl × Int) → Heap → Prop) =>
 iteB (decide (s0u1.2 < (slices.len : Int))) (
 idxS slices s0u1.2 1 fun a_1 =>
 Lift.load Sl.toV a_1 h3 fun v_2 =>
 appendS 7 120 s0u1.1 v_2 h3 fun v_3 h4 =>
 K0u2 (v_3, IntKind.wrap .i64 (s0u1.2 + 1)) h4
 ) (
 Q s0u1.1 h3
 )
 ) (v_1, 0) h2
 )
 ) (0, 0) h
def ratio_Cmp (x0 : Bool × Sl × Sl) (y : Bool × Sl × Sl) (h : Heap) (Q : Int → Heap → Prop) : Prop :=
 mem h fun h0 =>
 ratio_cross x0 y h0 fun v h1 =>
 mem h1 fun h2 =>
 ratio_sum (v.1.1, v.1.2) ((!v.2.1), v.2.2) h2 fun v_1 h3 =>
 mem h3 fun h4 =>
 iteB ((v_1.2.len : Int) == 0) (
 Q 0 h4
 ) (
 iteB v_1.1 (
 Q (-1) h4
 ) (
 Q 1 h4
 )
 )
def delta_Cmp (x0 : Bool × Sl × Sl × Bool × Sl × Sl) (y : Bool × Sl × Sl × Bool × Sl × Sl) (h : Heap) (Q : Int → Heap → Prop) : Prop :=
 mem h fun h0 =>
 ratio_Cmp (x0.1, x0.2.1, x0.2.2.1) (y.1, y.2.1, y.2.2.1) h0 fun v h1 =>
 iteB (v != 0) (
 Q v h1
 ) (
 ratio_Cmp (x0.2.2.2.1, x0.2.2.2.2.1, x0.2.2.2.2.2) (y.2.2.2.1, y.2.2.2.2.1, y.2.2.2.2.2) h1 fun v_1 h2 =>
 Q v_1 h2
 )
def tableau_same (x0 : Bool × Sl × Sl × Bool × Sl × Sl) (y : Bool × Sl × Sl × Bool × Sl × Sl) (h : Heap) (Q : Bool → Heap → Prop) : Prop :=
 mem h fun h0 =>
 delta_Cmp x0 y h0 fun v h1 =>
 Q (v == 0) h1
def tableau_edge (e : Int × Bool × Sl × Sl × Bool × Sl × Sl) (h : Heap) (Q : Bool → Heap → Prop) : Prop :=
 mem h fun h0 =>
 iteB (e.1 == 0) (
 seq (fun (K0 : Bool → Heap → Prop) =>
 tableau_same (e.2.1, e.2.2.1, e.2.2.2.1, e.2.2.2.2.1, e.2.2.2.2.2.1, e.2.2.2.2.2.2) (false, Sl.nil, Sl.nil, false, Sl.nil, Sl.nil) h0 fun v h2 =>
 iteB v (
 K0 ((IntKind.wrap .i64 ((e.2.2.2.1.len : Int) + (e.2.2.2.2.2.2.len : Int))) == 0) h2
 ) (
 K0 false h2
 )
 ) (fun t0 h1 =>
 Q t0 h1
 )
 ) (
 seq (fun (K0u1 : Bool → Heap → Prop) =>
 ratio_Right (e.2.1, e.2.2.1, e.2.2.2.1) h0 fun v_1 h4 =>
 iteB v_1 (
 ratio_Right (e.2.2.2.2.1, e.2.2.2.2.2.1, e.2.2.2.2.2.2) h4 fun v_2 h5 =>
 K0u1 v_2 h5
 ) (
 K0u1 false h4
 )
 ) (fun t0u1 h3 =>
 Q t0u1 h3
 )
 )
def tableau_Right_c3 (e : Int × Bool × Sl × Sl × Bool × Sl × Sl) (h : Heap) (Q : Bool → Heap → Prop) : Prop :=
 mem h fun h0 =>
 tableau_edge e h0 fun v h1 =>
 Q (!v) h1
def slices_IndexFunc_api_Edge_api_Edge__tableau_Right_c3 (s0 : Sl) (h : Heap) (Q : Int → Heap → Prop) : Prop :=
 loop (fun (s0u1 : Int) h0 (K0 : Int → Heap → Prop) =>
 iteB (decide (s0u1 < (s0.len : Int))) (
 idxS s0 s0u1 7 fun a =>
 loadS C_i64ubool_sl_sl_bool_sl_sl 7 a h0 fun v =>
 tableau_Right_c3 v h0 fun v_1 h1 =>
 iteB v_1 (
 Q s0u1 h1
 ) (
 K0 (IntKind.wrap .i64 (s0u1 + 1)) h1
 )
 ) (
 Q (-1) h0
 )
 ) 0 h
def slices_ContainsFunc_api_Edge_api_Edge__tableau_Right_c3 (s0 : Sl) (h : Heap) (Q : Bool → Heap → Prop) : Prop :=
 slices_IndexFunc_api_Edge_api_Edge__tableau_Right_c3 s0 h fun v h0 =>
 Q (decide (v ≥ 0)) h0
def linear_Right (p : Bool × Sl × Sl × Sl) (h : Heap) (Q : Bool → Heap → Prop) : Prop :=
 mem h fun h0 =>
 loop (fun (s0 : Int × Int) h1 (K0 : (Int × Int) → Heap → Prop) =>
 iteB (decide (s0.2 < (p.2.2.2.len : Int))) (
 idxS p.2.2.2 s0.2 4 fun a =>
 loadS C_i64ubool_sl_sl 4 a h1 fun v =>
 mem h1 fun h2 =>
 seq (fun (K0u1 : Bool → Heap → Prop) =>
 iteB (decide (v.1 ≤ s0.1)) (
 K0u1 true h2
 ) (
 ratio_Sign (v.2.1, v.2.2.1, v.2.2.2) h2 fun v_1 h4 =>
 iteB (v_1 == 0) (
 K0u1 true h4
 ) (
 ratio_Right (v.2.1, v.2.2.1, v.2.2.2) h4 fun v_2 h5 =>
 K0u1 (!v_2) h5
 )
 )
 ) (fun t0 h3 =>
 iteB t0 (
 Q false h3
 ) (
 K0 (v.1, IntKind.wrap .i64 (s0.2 + 1)) h3
 )
 )
 ) (
 ratio_Right (p.1, p.2.1, p.2.2.1) h1 fun v_3 h6 =>
 Q v_3 h6
 )
 ) ((-1), 0) h0
def tableau_Right_c4 (m0 : Int × Bool × Sl × Sl) (c0 : Addr) (c1 : Addr) (h : Heap) (Q : Bool → Heap → Prop) : Prop :=
 mem h fun h0 =>
 seq (fun (K0 : Bool → Heap → Prop) =>
 Lift.load (Value.int .i64) c0 h0 fun v =>
 iteB (decide (m0.1 ≥ v)) (
 K0 true h0
 ) (
 loadS C_sl_sl_sl_sl_sl 5 c1 h0 fun v_1 =>
 tableau_Row v_1 m0.1 h0 fun v_2 h2 =>
 K0 (decide (v_2 ≥ 0)) h2
 )
 ) (fun t0 h1 =>
 Q t0 h1
 )
def slices_IndexFunc_api_Mono_api_Mono__tableau_Right_c4 (s0 : Sl) (f_c : Addr) (f_c_1 : Addr) (h : Heap) (Q : Int → Heap → Prop) : Prop :=
 loop (fun (s0u1 : Int) h0 (K0 : Int → Heap → Prop) =>
 iteB (decide (s0u1 < (s0.len : Int))) (
 idxS s0 s0u1 4 fun a =>
 loadS C_i64ubool_sl_sl 4 a h0 fun v =>
 tableau_Right_c4 v f_c f_c_1 h0 fun v_1 h1 =>
 iteB v_1 (
 Q s0u1 h1
 ) (
 K0 (IntKind.wrap .i64 (s0u1 + 1)) h1
 )
 ) (
 Q (-1) h0
 )
 ) 0 h
def slices_ContainsFunc_api_Mono_api_Mono__tableau_Right_c4 (s0 : Sl) (f_c : Addr) (f_c_1 : Addr) (h : Heap) (Q : Bool → Heap → Prop) : Prop :=
 slices_IndexFunc_api_Mono_api_Mono__tableau_Right_c4 s0 f_c f_c_1 h fun v h0 =>
 Q (decide (v ≥ 0)) h0
def tableau_value (b : (Option Addr)) (p : Bool × Sl × Sl × Sl) (values : Sl) (h : Heap) (Q : (Bool × Sl × Sl × Bool × Sl × Sl) → Heap → Prop) : Prop :=
 mem h fun h0 =>
 loop (fun (s0 : Int × Bool × Sl × Sl × Bool × Sl × Sl) h1 (K0 : (Int × Bool × Sl × Sl × Bool × Sl × Sl) → Heap → Prop) =>
 iteB (decide (s0.1 < (p.2.2.2.len : Int))) (
 idxS p.2.2.2 s0.1 4 fun a =>
 loadS C_i64ubool_sl_sl 4 a h1 fun v =>
 mem h1 fun h2 =>
 idxS values v.1 6 fun a_1 =>
 loadS C_bool_sl_sl_bool_sl_sl 6 a_1 h2 fun v_1 =>
 delta_Scale b (v.2.1, v.2.2.1, v.2.2.2) v_1 h2 fun v_2 h3 =>
 delta_Add b (s0.2.1, s0.2.2.1, s0.2.2.2.1, s0.2.2.2.2.1, s0.2.2.2.2.2.1, s0.2.2.2.2.2.2) v_2 h3 fun v_3 h4 =>
 K0 (IntKind.wrap .i64 (s0.1 + 1), v_3.1, v_3.2.1, v_3.2.2.1, v_3.2.2.2.1, v_3.2.2.2.2.1, v_3.2.2.2.2.2) h4
 ) (
 Q (s0.2.1, s0.2.2.1, s0.2.2.2.1, s0.2.2.2.2.1, s0.2.2.2.2.2.1, s0.2.2.2.2.2.2) h1
 )
 ) (0, false, Sl.nil, Sl.nil, false, Sl.nil, Sl.nil) h0
def tableau_Right (t0 : Sl × Sl × Sl × Sl × Sl) (h : Heap) (Q : Bool → Heap → Prop) : Prop :=
 new [Sl.toV t0.1, Sl.toV t0.2.1, Sl.toV t0.2.2.1, Sl.toV t0.2.2.2.1, Sl.toV t0.2.2.2.2] h fun t0u1 h0 =>
 Lift.load Sl.toV (t0u1.add 2) h0 fun v =>
 new [Value.int .i64 0] h0 fun n h1 =>
 Lift.store n (Value.int .i64 (v.len : Int)) h1 fun h2 =>
 seq (fun (K0 : Bool → Heap → Prop) =>
 Lift.load Sl.toV (t0u1.add 0) h2 fun v_1 =>
 Lift.load Sl.toV (t0u1.add 1) h2 fun v_2 =>
 iteB ((v_1.len : Int) != (v_2.len : Int)) (
 K0 true h2
 ) (
 Lift.load Sl.toV (t0u1.add 3) h2 fun v_3 =>
 Lift.load (Value.int .i64) n h2 fun v_4 =>
 iteB ((v_3.len : Int) != v_4) (
 K0 true h2
 ) (
 Lift.load Sl.toV (t0u1.add 4) h2 fun v_5 =>
 Lift.load (Value.int .i64) n h2 fun v_6 =>
 K0 ((v_5.len : Int) != v_6) h2
 )
 )
 ) (fun t0u2 h3 =>
 iteB t0u2 (
 Q false h3
 ) (
 Lift.load Sl.toV (t0u1.add 0) h3 fun v_7 =>
 loop (fun (s0 : Int) h4 (K0u1 : Int → Heap → Prop) =>
 iteB (decide (s0 < (v_7.len : Int))) (
 idxS v_7 s0 1 fun a =>
 Lift.load (Value.int .i64) a h4 fun v_8 =>
 seq (fun (K0u2 : Bool → Heap → Prop) =>
 iteB (decide (v_8 < 0)) (
 K0u2 true h4
 ) (
 Lift.load (Value.int .i64) n h4 fun v_9 =>
 iteB (decide (v_8 ≥ v_9)) (
 K0u2 true h4
 ) (
 loadS C_sl_sl_sl_sl_sl 5 t0u1 h4 fun v_10 =>
 tableau_Row v_10 v_8 h4 fun v_11 h6 =>
 K0u2 (v_11 != s0) h6
 )
 )
 ) (fun t0u3 h5 =>
 iteB t0u3 (
 Q false h5
 ) (
 K0u1 (IntKind.wrap .i64 (s0 + 1)) h5
 )
 )
 ) (
 new [Value.nilFunc] h4 fun number h7 =>
 Lift.store number (FnV.toV (FnV.mk 55 [] [])) h7 fun h8 =>
 seq (fun (K0u3 : Bool → Heap → Prop) =>
 Lift.load Sl.toV (t0u1.add 2) h8 fun v_12 =>
 slices_ContainsFunc_api_Delta_api_Delta__tableau_Right_c2 v_12 number h8 fun v_13 h10 =>
 iteB v_13 (
 K0u3 true h10
 ) (
 Lift.load Sl.toV (t0u1.add 3) h10 fun v_14 =>
 Lift.load Sl.toV (t0u1.add 4) h10 fun v_15 =>
 new [Sl.toV v_14, Sl.toV v_15] h10 fun a_1 h11 =>
 slices_Concat_api_Edge_api_Edge (⟨some a_1, 2, 2⟩ : Sl) h11 fun v_17 h12 =>
 slices_ContainsFunc_api_Edge_api_Edge__tableau_Right_c3 v_17 h12 fun v_18 h13 =>
 K0u3 v_18 h13
 )
 ) (fun t0u4 h9 =>
 iteB t0u4 (
 Q false h9
 ) (
 nat_New 1048576 h9 fun v_19 h14 =>
 Lift.load Sl.toV (t0u1.add 1) h14 fun v_20 =>
 loop (fun (s0u1 : Int) h15 (K0u4 : Int → Heap → Prop) =>
 iteB (decide (s0u1 < (v_20.len : Int))) (
 idxS v_20 s0u1 4 fun a_2 =>
 loadS C_bool_sl_sl_sl 4 a_2 h15 fun v_21 =>
 mem h15 fun h16 =>
 seq (fun (K0u5 : Bool → Heap → Prop) =>
 linear_Right v_21 h16 fun v_22 h18 =>
 iteB (!v_22) (
 K0u5 true h18
 ) (
 ratio_Sign (v_21.1, v_21.2.1, v_21.2.2.1) h18 fun v_23 h19 =>
 iteB (v_23 != 0) (
 K0u5 true h19
 ) (
 slices_ContainsFunc_api_Mono_api_Mono__tableau_Right_c4 v_21.2.2.2 n t0u1 h19 fun v_24 h20 =>
 iteB v_24 (
 K0u5 true h20
 ) (
 Lift.load Sl.toV (t0u1.add 2) h20 fun v_25 =>
 Lift.load Sl.toV (t0u1.add 2) h20 fun v_26 =>
 Lift.load Sl.toV (t0u1.add 0) h20 fun v_27 =>
 idxS v_27 s0u1 1 fun a_3 =>
 Lift.load (Value.int .i64) a_3 h20 fun v_28 =>
 idxS v_26 v_28 6 fun a_4 =>
 loadS C_bool_sl_sl_bool_sl_sl 6 a_4 h20 fun v_29 =>
 tableau_value v_19 v_21 v_25 h20 fun v_30 h21 =>
 (cell? h21 (t0u1.add 2) = some (Sl.toV v_26)) ∧
 (cell? h21 (t0u1.add 0) = some (Sl.toV v_27)) ∧
 (cell? h21 a_3 = some (Value.int .i64 v_28)) ∧
 (cells? h21 a_4 6 0 = some [Value.bool v_29.1, Sl.toV v_29.2.1, Sl.toV v_29.2.2.1, Value.bool v_29.2.2.2.1, Sl.toV v_29.2.2.2.2.1, Sl.toV v_29.2.2.2.2.2]) ∧
 tableau_same v_30 v_29 h21 fun v_31 h22 =>
 K0u5 (!v_31) h22
 )
 )
 )
 ) (fun t0u5 h17 =>
 iteB t0u5 (
 Q false h17
 ) (
 K0u4 (IntKind.wrap .i64 (s0u1 + 1)) h17
 )
 )
 ) (
 Q true h15
 )
 ) 0 h14
 )
 )
 )
 ) 0 h3
 )
 )
def slices_Equal_int_int (s1 : Sl) (s2 : Sl) (h : Heap) (Q : Bool → Heap → Prop) : Prop :=
 iteB ((s1.len : Int) != (s2.len : Int)) (
 Q false h
 ) (
 loop (fun (s0 : Int) h0 (K0 : Int → Heap → Prop) =>
 iteB (decide (s0 < (s1.len : Int))) (
 idxS s1 s0 1 fun a =>
 Lift.load (Value.int .i64) a h0 fun v =>
 idxS s2 s0 1 fun a_1 =>
 Lift.load (Value.int .i64) a_1 h0 fun v_1 =>
 iteB (v != v_1) (
 Q false h0
 ) (
 K0 (IntKind.wrap .i64 (s0 + 1)) h0
 )
 ) (
 Q true h0
 )
 ) 0 h
 )
def linear_Same_c1 (x0 : Int × Bool × Sl × Sl) (y : Int × Bool × Sl × Sl) (h : Heap) (Q : Bool → Heap → Prop) : Prop :=
 mem h fun h0 =>
 seq (fun (K0 : Bool → Heap → Prop) =>
 iteB (x0.1 == y.1) (
 ratio_Cmp (x0.2.1, x0.2.2.1, x0.2.2.2) (y.2.1, y.2.2.1, y.2.2.2) h0 fun v h2 =>
 K0 (v == 0) h2
 ) (
 K0 false h0
 )
 ) (fun t0 h1 =>
 Q t0 h1
 )
def slices_EqualFunc_api_Mono_api_Mono_api_Mono_api_Mono__linear_Same_c1 (s1 : Sl) (s2 : Sl) (h : Heap) (Q : Bool → Heap → Prop) : Prop :=
 iteB ((s1.len : Int) != (s2.len : Int)) (
 Q false h
 ) (
 loop (fun (s0 : Int) h0 (K0 : Int → Heap → Prop) =>
 iteB (decide (s0 < (s1.len : Int))) (
 idxS s1 s0 4 fun a =>
 loadS C_i64ubool_sl_sl 4 a h0 fun v =>
 mem h0 fun h1 =>
 idxS s2 s0 4 fun a_1 =>
 loadS C_i64ubool_sl_sl 4 a_1 h1 fun v_1 =>
 mem h1 fun h2 =>
 linear_Same_c1 v v_1 h2 fun v_2 h3 =>
 iteB (!v_2) (
 Q false h3
 ) (
 K0 (IntKind.wrap .i64 (s0 + 1)) h3
 )
 ) (
 Q true h0
 )
 ) 0 h
 )
def linear_Same (p : Bool × Sl × Sl × Sl) (q : Bool × Sl × Sl × Sl) (h : Heap) (Q : Bool → Heap → Prop) : Prop :=
 mem h fun h0 =>
 seq (fun (K0 : Bool → Heap → Prop) =>
 ratio_Cmp (p.1, p.2.1, p.2.2.1) (q.1, q.2.1, q.2.2.1) h0 fun v h2 =>
 iteB (v == 0) (
 slices_EqualFunc_api_Mono_api_Mono_api_Mono_api_Mono__linear_Same_c1 p.2.2.2 q.2.2.2 h2 fun v_1 h3 =>
 K0 v_1 h3
 ) (
 K0 false h2
 )
 ) (fun t0 h1 =>
 Q t0 h1
 )
def slices_EqualFunc_api_Poly_api_Poly_api_Poly_api_Poly__linear_Same (s1 : Sl) (s2 : Sl) (h : Heap) (Q : Bool → Heap → Prop) : Prop :=
 iteB ((s1.len : Int) != (s2.len : Int)) (
 Q false h
 ) (
 loop (fun (s0 : Int) h0 (K0 : Int → Heap → Prop) =>
 iteB (decide (s0 < (s1.len : Int))) (
 idxS s1 s0 4 fun a =>
 loadS C_bool_sl_sl_sl 4 a h0 fun v =>
 mem h0 fun h1 =>
 idxS s2 s0 4 fun a_1 =>
 loadS C_bool_sl_sl_sl 4 a_1 h1 fun v_1 =>
 mem h1 fun h2 =>
 linear_Same v v_1 h2 fun v_2 h3 =>
 iteB (!v_2) (
 Q false h3
 ) (
 K0 (IntKind.wrap .i64 (s0 + 1)) h3
 )
 ) (
 Q true h0
 )
 ) 0 h
 )
def slices_EqualFunc_api_Delta_api_Delta_api_Delta_api_Delta__tableau_same (s1 : Sl) (s2 : Sl) (h : Heap) (Q : Bool → Heap → Prop) : Prop :=
 iteB ((s1.len : Int) != (s2.len : Int)) (
 Q false h
 ) (
 loop (fun (s0 : Int) h0 (K0 : Int → Heap → Prop) =>
 iteB (decide (s0 < (s1.len : Int))) (
 idxS s1 s0 6 fun a =>
 loadS C_bool_sl_sl_bool_sl_sl 6 a h0 fun v =>
 mem h0 fun h1 =>
 idxS s2 s0 6 fun a_1 =>
 loadS C_bool_sl_sl_bool_sl_sl 6 a_1 h1 fun v_1 =>
 mem h1 fun h2 =>
 tableau_same v v_1 h2 fun v_2 h3 =>
 iteB (!v_2) (
 Q false h3
 ) (
 K0 (IntKind.wrap .i64 (s0 + 1)) h3
 )
 ) (
 Q true h0
 )
 ) 0 h
 )
def tableau_Same_c1 (x0 : Int × Bool × Sl × Sl × Bool × Sl × Sl) (y : Int × Bool × Sl × Sl × Bool × Sl × Sl) (h : Heap) (Q : Bool → Heap → Prop) : Prop :=
 mem h fun h0 =>
 seq (fun (K0 : Bool → Heap → Prop) =>
 iteB (x0.1 == y.1) (
 tableau_same (x0.2.1, x0.2.2.1, x0.2.2.2.1, x0.2.2.2.2.1, x0.2.2.2.2.2.1, x0.2.2.2.2.2.2) (y.2.1, y.2.2.1, y.2.2.2.1, y.2.2.2.2.1, y.2.2.2.2.2.1, y.2.2.2.2.2.2) h0 fun v h2 =>
 K0 v h2
 ) (
 K0 false h0
 )
 ) (fun t0 h1 =>
 Q t0 h1
 )
def slices_EqualFunc_api_Edge_api_Edge_api_Edge_api_Edge__tableau_Same_c1 (s1 : Sl) (s2 : Sl) (h : Heap) (Q : Bool → Heap → Prop) : Prop :=
 iteB ((s1.len : Int) != (s2.len : Int)) (
 Q false h
 ) (
 loop (fun (s0 : Int) h0 (K0 : Int → Heap → Prop) =>
 iteB (decide (s0 < (s1.len : Int))) (
 idxS s1 s0 7 fun a =>
 loadS C_i64ubool_sl_sl_bool_sl_sl 7 a h0 fun v =>
 mem h0 fun h1 =>
 idxS s2 s0 7 fun a_1 =>
 loadS C_i64ubool_sl_sl_bool_sl_sl 7 a_1 h1 fun v_1 =>
 mem h1 fun h2 =>
 tableau_Same_c1 v v_1 h2 fun v_2 h3 =>
 iteB (!v_2) (
 Q false h3
 ) (
 K0 (IntKind.wrap .i64 (s0 + 1)) h3
 )
 ) (
 Q true h0
 )
 ) 0 h
 )
def tableau_Same (s0 : Sl × Sl × Sl × Sl × Sl) (t0 : Sl × Sl × Sl × Sl × Sl) (h : Heap) (Q : Bool → Heap → Prop) : Prop :=
 mem h fun h0 =>
 seq (fun (K0 : Bool → Heap → Prop) =>
 slices_Equal_int_int s0.1 t0.1 h0 fun v h2 =>
 iteB v (
 slices_EqualFunc_api_Poly_api_Poly_api_Poly_api_Poly__linear_Same s0.2.1 t0.2.1 h2 fun v_1 h3 =>
 iteB v_1 (
 slices_EqualFunc_api_Delta_api_Delta_api_Delta_api_Delta__tableau_same s0.2.2.1 t0.2.2.1 h3 fun v_2 h4 =>
 iteB v_2 (
 slices_EqualFunc_api_Edge_api_Edge_api_Edge_api_Edge__tableau_Same_c1 s0.2.2.2.1 t0.2.2.2.1 h4 fun v_3 h5 =>
 iteB v_3 (
 slices_EqualFunc_api_Edge_api_Edge_api_Edge_api_Edge__tableau_Same_c1 s0.2.2.2.2 t0.2.2.2.2 h5 fun v_4 h6 =>
 K0 v_4 h6
 ) (
 K0 false h5
 )
 ) (
 K0 false h4
 )
 ) (
 K0 false h3
 )
 ) (
 K0 false h2
 )
 ) (fun t0u1 h1 =>
 Q t0u1 h1
 )
def law14uTableauActs (reals : Int) (rows : Sl) (acts : Sl) (h : Heap) (Q : Bool → Heap → Prop) : Prop :=
 law14uspeaks h fun v h0 =>
 iteB (!v) (
 Q false h0
 ) (
 seq (fun (K0 : Bool → Heap → Prop) =>
 iteB (decide (reals < 0)) (
 K0 true h0
 ) (
 law14uGreat rows reals h0 fun v_1 h2 =>
 iteB v_1 (
 K0 true h2
 ) (
 K0 (decide ((acts.len : Int) > 20)) h2
 )
 )
 ) (fun t0 h1 =>
 iteB t0 (
 Q true h1
 ) (
 loop (fun (s0 : Int) h3 (K0u1 : Int → Heap → Prop) =>
 iteB (decide (s0 < (rows.len : Int))) (
 idxS rows s0 4 fun a =>
 loadS C_bool_sl_sl_sl 4 a h3 fun v_2 =>
 mem h3 fun h4 =>
 seq (fun (K0u2 : Bool → Heap → Prop) =>
 iteB (decide ((v_2.2.2.2.len : Int) < 2)) (
 K0u2 true h4
 ) (
 iteB (decide ((v_2.2.1.len : Int) > 0)) (
 K0u2 true h4
 ) (
 idxS v_2.2.2.2 (IntKind.wrap .i64 ((v_2.2.2.2.len : Int) - 1)) 4 fun a_1 =>
 Lift.load (Value.int .i64) (a_1.add 0) h4 fun v_3 =>
 K0u2 (decide (v_3 ≥ reals)) h4
 )
 )
 ) (fun t0u1 h5 =>
 iteB t0u1 (
 Q true h5
 ) (
 K0u1 (IntKind.wrap .i64 (s0 + 1)) h5
 )
 )
 ) (
 mem h3 fun h6 =>
 nat_New 60 h6 fun v_4 h7 =>
 seq (fun (K0u3 : (Addr × Sl × Sl × Sl × Sl × Sl) → Heap → Prop) =>
 mem h7 fun h9 =>
 (
 tableau_New (0, reals, rows, Sl.nil, Sl.nil, Sl.nil, Sl.nil) h9 fun v_16 h53 =>
 mem h53 fun h54 =>
 (
 ref14uNew (0, reals, rows, Sl.nil, Sl.nil, Sl.nil, Sl.nil) h54 fun v_17 h55 =>
 mem h55 fun h56 =>
 new [Sl.toV Sl.nil, Sl.toV Sl.nil, Sl.toV Sl.nil, Sl.toV Sl.nil, Sl.toV Sl.nil] h56 fun t0u9 h57 =>
 mem h57 fun h58 =>
 storeS t0u9 [Sl.toV v_16.1, Sl.toV v_16.2.1, Sl.toV v_16.2.2.1, Sl.toV v_16.2.2.2.1, Sl.toV v_16.2.2.2.2] h58 fun h59 =>
 K0u3 (t0u9, v_17.1, v_17.2.1, v_17.2.2.1, v_17.2.2.2.1, v_17.2.2.2.2) h59
 ) ∧ (
 new [Sl.toV Sl.nil, Sl.toV Sl.nil, Sl.toV Sl.nil, Sl.toV Sl.nil, Sl.toV Sl.nil] h54 fun t0u10 h60 =>
 mem h60 fun h61 =>
 ref14uNew (0, reals, rows, Sl.nil, Sl.nil, Sl.nil, Sl.nil) h61 fun v_18 h62 =>
 mem h62 fun h63 =>
 storeS t0u10 [Sl.toV v_16.1, Sl.toV v_16.2.1, Sl.toV v_16.2.2.1, Sl.toV v_16.2.2.2.1, Sl.toV v_16.2.2.2.2] h63 fun h64 =>
 K0u3 (t0u10, v_18.1, v_18.2.1, v_18.2.2.1, v_18.2.2.2.1, v_18.2.2.2.2) h64
 )
 ) ∧ (
 new [Sl.toV Sl.nil, Sl.toV Sl.nil, Sl.toV Sl.nil, Sl.toV Sl.nil, Sl.toV Sl.nil] h9 fun t0u11 h65 =>
 mem h65 fun h66 =>
 tableau_New (0, reals, rows, Sl.nil, Sl.nil, Sl.nil, Sl.nil) h66 fun v_19 h67 =>
 mem h67 fun h68 =>
 ref14uNew (0, reals, rows, Sl.nil, Sl.nil, Sl.nil, Sl.nil) h68 fun v_20 h69 =>
 mem h69 fun h70 =>
 storeS t0u11 [Sl.toV v_19.1, Sl.toV v_19.2.1, Sl.toV v_19.2.2.1, Sl.toV v_19.2.2.2.1, Sl.toV v_19.2.2.2.2] h70 fun h71 =>
 K0u3 (t0u11, v_20.1, v_20.2.1, v_20.2.2.1, v_20.2.2.2.1, v_20.2.2.2.2) h71
 )
 ) (fun t0u2 h8 =>
 loop (fun (s0u1 : Int × Sl × Sl × Sl × Sl × Sl) h72 (K0u4 : (Int × Sl × Sl × Sl × Sl × Sl) → Heap → Prop) =>
 iteB (decide (s0u1.1 < (acts.len : Int))) (
 idxS acts s0u1.1 9 fun a_2 =>
 loadS C_bool_i64ui64ubool_sl_sl_bool_sl_sl 9 a_2 h72 fun v_21 =>
 mem h72 fun h73 =>
 new [Value.bool v_21.2.2.2.1, Sl.toV v_21.2.2.2.2.1, Sl.toV v_21.2.2.2.2.2.1, Value.bool v_21.2.2.2.2.2.2.1, Sl.toV v_21.2.2.2.2.2.2.2.1, Sl.toV v_21.2.2.2.2.2.2.2.2] h73 fun a_3 h74 =>
 law03uOdd (⟨some a_3, 1, 1⟩ : Sl) h74 fun v_23 h75 =>
 iteB v_23 (
 Q true h75
 ) (
 seq (fun (K0u5 : Int → Heap → Prop) =>
 iteB v_21.1 (
 tableau_Update v_4 (some t0u2.1) v_21.2.2.1 (v_21.2.2.2.1, v_21.2.2.2.2.1, v_21.2.2.2.2.2.1, v_21.2.2.2.2.2.2.1, v_21.2.2.2.2.2.2.2.1, v_21.2.2.2.2.2.2.2.2) h75 fun v_24 h77 =>
 K0u5 v_24 h77
 ) (
 tableau_Pivot v_4 (some t0u2.1) v_21.2.1 v_21.2.2.1 h75 fun v_25 h78 =>
 K0u5 v_25 h78
 )
 ) (fun t0u12 h76 =>
 nat_Bench_Over v_4 h76 fun v_26 h79 =>
 iteB v_26 (
 Q (t0u12 == 6) h79
 ) (
 seq (fun (K0u6 : (Int × Sl × Sl × Sl × Sl × Sl) → Heap → Prop) =>
 iteB v_21.1 (
 ref14uUpdate (s0u1.2.1, s0u1.2.2.1, s0u1.2.2.2.1, s0u1.2.2.2.2.1, s0u1.2.2.2.2.2) v_21.2.2.1 (v_21.2.2.2.1, v_21.2.2.2.2.1, v_21.2.2.2.2.2.1, v_21.2.2.2.2.2.2.1, v_21.2.2.2.2.2.2.2.1, v_21.2.2.2.2.2.2.2.2) h79 fun v_27 h81 =>
 K0u6 (v_27.2, v_27.1.1, v_27.1.2.1, v_27.1.2.2.1, v_27.1.2.2.2.1, v_27.1.2.2.2.2) h81
 ) (
 ref14uPivot (s0u1.2.1, s0u1.2.2.1, s0u1.2.2.2.1, s0u1.2.2.2.2.1, s0u1.2.2.2.2.2) v_21.2.1 v_21.2.2.1 h79 fun v_28 h82 =>
 K0u6 (v_28.2, v_28.1.1, v_28.1.2.1, v_28.1.2.2.1, v_28.1.2.2.2.1, v_28.1.2.2.2.2) h82
 )
 ) (fun t0u13 h80 =>
 seq (fun (K0u7 : Bool → Heap → Prop) =>
 iteB (t0u12 != t0u13.1) (
 K0u7 true h80
 ) (
 loadS C_sl_sl_sl_sl_sl 5 t0u2.1 h80 fun v_29 =>
 ref14uSame v_29 (t0u13.2.1, t0u13.2.2.1, t0u13.2.2.2.1, t0u13.2.2.2.2.1, t0u13.2.2.2.2.2) h80 fun v_30 h84 =>
 iteB (!v_30) (
 K0u7 true h84
 ) (
 loadS C_sl_sl_sl_sl_sl 5 t0u2.1 h84 fun v_31 =>
 tableau_Right v_31 h84 fun v_32 h85 =>
 iteB (!v_32) (
 K0u7 true h85
 ) (
 loadS C_sl_sl_sl_sl_sl 5 t0u2.1 h85 fun v_33 =>
 tableau_Same v_33 (t0u13.2.1, t0u13.2.2.1, t0u13.2.2.2.1, t0u13.2.2.2.2.1, t0u13.2.2.2.2.2) h85 fun v_34 h86 =>
 iteB (!v_34) (
 K0u7 true h86
 ) (
 loadS C_sl_sl_sl_sl_sl 5 t0u2.1 h86 fun v_35 =>
 tableau_Row v_35 v_21.2.2.1 h86 fun v_36 h87 =>
 ref14uRow (t0u13.2.1, t0u13.2.2.1, t0u13.2.2.2.1, t0u13.2.2.2.2.1, t0u13.2.2.2.2.2) v_21.2.2.1 h87 fun v_37 h88 =>
 K0u7 (v_36 != v_37) h88
 )
 )
 )
 )
 ) (fun t0u14 h83 =>
 iteB t0u14 (
 Q false h83
 ) (
 K0u4 (IntKind.wrap .i64 (s0u1.1 + 1), t0u13.2.1, t0u13.2.2.1, t0u13.2.2.2.1, t0u13.2.2.2.2.1, t0u13.2.2.2.2.2) h83
 )
 )
 )
 )
 )
 )
 ) (
 loadS C_sl_sl_sl_sl_sl 5 t0u2.1 h72 fun v_38 =>
 ref14uSame v_38 (s0u1.2.1, s0u1.2.2.1, s0u1.2.2.2.1, s0u1.2.2.2.2.1, s0u1.2.2.2.2.2) h72 fun v_39 h89 =>
 Q v_39 h89
 )
 ) (0, t0u2.2.1, t0u2.2.2.1, t0u2.2.2.2.1, t0u2.2.2.2.2.1, t0u2.2.2.2.2.2) h8
 )
 )
 ) 0 h1
 )
 )
 )
end Go.Sh

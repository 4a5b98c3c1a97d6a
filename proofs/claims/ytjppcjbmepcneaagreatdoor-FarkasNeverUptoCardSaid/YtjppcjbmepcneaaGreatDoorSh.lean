/-
  Laws that the proof of this claim's statement leans on, each proved under the conditions that it states.
-/
import Derived.Test.YtjppcjbmepcneaaGreatDoorFwC
set_option linter.unusedVariables false
set_option linter.unusedSimpArgs false
namespace Go.Sh
open Go Go.Lift
def C_bool_sl (x : Bool × Sl) : List Value := [Value.bool x.1, Sl.toV x.2]
def C_bool_sl_sl (x : Bool × Sl × Sl) : List Value := [Value.bool x.1, Sl.toV x.2.1, Sl.toV x.2.2]
def C_bool_sl_sl_bool_sl_sl (x : Bool × Sl × Sl × Bool × Sl × Sl) : List Value := [Value.bool x.1, Sl.toV x.2.1, Sl.toV x.2.2.1, Value.bool x.2.2.2.1, Sl.toV x.2.2.2.2.1, Sl.toV x.2.2.2.2.2]
def C_bool_sl_sl_sl (x : Bool × Sl × Sl × Sl) : List Value := [Value.bool x.1, Sl.toV x.2.1, Sl.toV x.2.2.1, Sl.toV x.2.2.2]
def C_bool_sl_sl_sl_bool_sl_sl_bool_sl_sl (x : Bool × Sl × Sl × Sl × Bool × Sl × Sl × Bool × Sl × Sl) : List Value := [Value.bool x.1, Sl.toV x.2.1, Sl.toV x.2.2.1, Sl.toV x.2.2.2.1, Value.bool x.2.2.2.2.1, Sl.toV x.2.2.2.2.2.1, Sl.toV x.2.2.2.2.2.2.1, Value.bool x.2.2.2.2.2.2.2.1, Sl.toV x.2.2.2.2.2.2.2.2.1, Sl.toV x.2.2.2.2.2.2.2.2.2]
def C_i64ubool_sl_sl (x : Int × Bool × Sl × Sl) : List Value := [Value.int .i64 x.1, Value.bool x.2.1, Sl.toV x.2.2.1, Sl.toV x.2.2.2]
def C_i64ui64ui64ubool_sl_sl_bool_sl_sl (x : Int × Int × Int × Bool × Sl × Sl × Bool × Sl × Sl) : List Value := [Value.int .i64 x.1, Value.int .i64 x.2.1, Value.int .i64 x.2.2.1, Value.bool x.2.2.2.1, Sl.toV x.2.2.2.2.1, Sl.toV x.2.2.2.2.2.1, Value.bool x.2.2.2.2.2.2.1, Sl.toV x.2.2.2.2.2.2.2.1, Sl.toV x.2.2.2.2.2.2.2.2]
def C_i64ui64usl_sl_sl_sl_sl (x : Int × Int × Sl × Sl × Sl × Sl × Sl) : List Value := [Value.int .i64 x.1, Value.int .i64 x.2.1, Sl.toV x.2.2.1, Sl.toV x.2.2.2.1, Sl.toV x.2.2.2.2.1, Sl.toV x.2.2.2.2.2.1, Sl.toV x.2.2.2.2.2.2]
abbrev g_math_bits_deBruijn32tab : Nat := 0
def nat_trim (x0 : Sl) (h : Heap) (Q : Sl → Heap → Prop) : Prop :=
 loop (fun (s0 : Sl) h0 (K0 : Sl → Heap → Prop) =>
 seq (fun (K0u1 : Bool → Heap → Prop) =>
 iteB (decide (((s0.len : Nat) : Int) > 0)) (
 idxS s0 (IntKind.wrap .i64 (((s0.len : Nat) : Int) - 1)) 1 fun a =>
 Lift.load (Value.int .u32) a h0 fun v =>
 K0u1 (v == 0) h0
 ) (
 K0u1 false h0
 )
 ) (fun t0 h0u1 =>
 iteB t0 (
 sliceOf s0 none (some (IntKind.wrap .i64 (((s0.len : Nat) : Int) - 1))) none 1 fun v_1 =>
 K0 v_1 h0u1
 ) (
 Q s0 h0u1
 )
 )
 ) x0 h
def nat_Of (n : Int) (h : Heap) (Q : Sl → Heap → Prop) : Prop :=
 new [Value.int .u32 (IntKind.wrap .u32 n), Value.int .u32 (IntKind.wrap .u32 (Int.fdiv n (2 ^ (min (Int.toNat 32) (IntKind.bits .u64)))))] h fun a h0 =>
 nat_trim (⟨some a, 2, 2⟩ : Sl) h0 fun v_1 h0u1 =>
 Q v_1 h0u1
def ratio_Of (n : Int) (h : Heap) (Q : (Bool × Sl × Sl) → Heap → Prop) : Prop :=
 mem h fun h0 =>
 Let (IntKind.wrap .u64 n : Int) fun size =>
 seq (fun (K0 : Int → Heap → Prop) =>
 iteB (decide (n < 0)) (
 Let (IntKind.wrap .u64 (0 - size) : Int) fun size_1 =>
 K0 size_1 h0
 ) (
 K0 size h0
 )
 ) (fun t0 h0u1 =>
 nat_Of t0 h0u1 fun v h0u2 =>
 Q (decide (n < 0), v, Sl.nil) h0u2
 )
def cnf_Right_c1 (l : Int) (c0 : Addr) (h : Heap) (Q : Bool → Heap → Prop) : Prop :=
 seq (fun (K0 : Bool → Heap → Prop) =>
 iteB (l == 0) (
 K0 true h
 ) (
 Lift.load (Value.int .i64) (c0.add 0) h fun v =>
 iteB (decide (l > v)) (
 K0 true h
 ) (
 Lift.load (Value.int .i64) (c0.add 0) h fun v_1 =>
 K0 (decide (l < (IntKind.wrap .i64 (0 - v_1)))) h
 )
 )
 ) (fun t0 h0 =>
 Q t0 h0
 )
def slices_IndexFunc_int_int (s0 : Sl) (f : FnV) (h : Heap) (Q : Int → Heap → Prop) : Prop :=
 loop (fun (s0u1 : Int) h0 (K0 : Int → Heap → Prop) =>
 iteB (decide (s0u1 < ((s0.len : Nat) : Int))) (
 idxS s0 s0u1 1 fun a =>
 Lift.load (Value.int .i64) a h0 fun v =>
 dyn (fun (K0u1 : Bool → Heap → Prop) =>
 (∃ (dc3u0 : Addr), f = FnV.mk 97 [] [Value.pointer (some dc3u0)] ∧ cnf_Right_c1 v dc3u0 h0 K0u1)
 ) fun v_1 h0u1 =>
 iteB v_1 (
 Q s0u1 h0u1
 ) (
 K0 (IntKind.wrap .i64 (s0u1 + 1)) h0u1
 )
 ) (
 Q (-1) h0
 )
 ) 0 h
def slices_ContainsFunc_int_int (s0 : Sl) (f : FnV) (h : Heap) (Q : Bool → Heap → Prop) : Prop :=
 slices_IndexFunc_int_int s0 f h fun v h0 =>
 Q (decide (v ≥ 0)) h0
def cnf_Right_c2 (c : Sl) (c0 : Addr) (h : Heap) (Q : Bool → Heap → Prop) : Prop :=
 Lift.load FnV.toV c0 h fun v =>
 slices_ContainsFunc_int_int c v h fun v_1 h0 =>
 Q v_1 h0
def slices_IndexFunc_int_int__cnf_Right_c2 (s0 : Sl) (f_c : Addr) (h : Heap) (Q : Int → Heap → Prop) : Prop :=
 loop (fun (s0u1 : Int) h0 (K0 : Int → Heap → Prop) =>
 iteB (decide (s0u1 < ((s0.len : Nat) : Int))) (
 idxS s0 s0u1 1 fun a =>
 Lift.load Sl.toV a h0 fun v =>
 cnf_Right_c2 v f_c h0 fun v_1 h0u1 =>
 iteB v_1 (
 Q s0u1 h0u1
 ) (
 K0 (IntKind.wrap .i64 (s0u1 + 1)) h0u1
 )
 ) (
 Q (-1) h0
 )
 ) 0 h
def slices_ContainsFunc_int_int__cnf_Right_c2 (s0 : Sl) (f_c : Addr) (h : Heap) (Q : Bool → Heap → Prop) : Prop :=
 slices_IndexFunc_int_int__cnf_Right_c2 s0 f_c h fun v h0 =>
 Q (decide (v ≥ 0)) h0
def cnf_rowed (p : Int × Int × Sl × Sl × Sl × Sl × Sl) (h : Heap) (Q : FnV → Heap → Prop) : Prop :=
 new [Value.int .i64 p.1, Value.int .i64 p.2.1, Sl.toV p.2.2.1, Sl.toV p.2.2.2.1, Sl.toV p.2.2.2.2.1, Sl.toV p.2.2.2.2.2.1, Sl.toV p.2.2.2.2.2.2] h fun p_1 h0 =>
 Q (FnV.mk 145 [] [Value.pointer (some p_1)]) h0
def cnf_atomic (p : Int × Int × Sl × Sl × Sl × Sl × Sl) (h : Heap) (Q : FnV → Heap → Prop) : Prop :=
 new [Value.int .i64 p.1, Value.int .i64 p.2.1, Sl.toV p.2.2.1, Sl.toV p.2.2.2.1, Sl.toV p.2.2.2.2.1, Sl.toV p.2.2.2.2.2.1, Sl.toV p.2.2.2.2.2.2] h fun p_1 h0 =>
 newM h0 fun v h0u1 =>
 new [Value.map none] h0u1 fun seen h0u2 =>
 Lift.store seen (Value.map v) h0u2 fun h0u3 =>
 Q (FnV.mk 146 [] [Value.pointer (some p_1), Value.pointer (some seen)]) h0u3
def ratio_Sign (x0 : Bool × Sl × Sl) (h : Heap) (Q : Int → Heap → Prop) : Prop :=
 mem h fun h0 =>
 iteB (((x0.2.1.len : Nat) : Int) == 0) (
 Q 0 h0
 ) (
 iteB x0.1 (
 Q (-1) h0
 ) (
 Q 1 h0
 )
 )
def nat_Right (x0 : Sl) (h : Heap) (Q : Bool → Heap → Prop) : Prop :=
 nat_trim x0 h fun v h0 =>
 Q (((v.len : Nat) : Int) == ((x0.len : Nat) : Int)) h0
def ratio_one (h : Heap) (Q : Sl → Heap → Prop) : Prop :=
 new [Value.int .u32 1] h fun a h0 =>
 Q (⟨some a, 1, 1⟩ : Sl) h0
def slices_Equal_api_Nat_uint32 (s1 : Sl) (s2 : Sl) (h : Heap) (Q : Bool → Heap → Prop) : Prop :=
 iteB (((s1.len : Nat) : Int) != ((s2.len : Nat) : Int)) (
 Q false h
 ) (
 loop (fun (s0 : Int) h0 (K0 : Int → Heap → Prop) =>
 iteB (decide (s0 < ((s1.len : Nat) : Int))) (
 idxS s1 s0 1 fun a =>
 Lift.load (Value.int .u32) a h0 fun v =>
 idxS s2 s0 1 fun a_1 =>
 Lift.load (Value.int .u32) a_1 h0 fun v_1 =>
 iteB (v != v_1) (
 Q false h0
 ) (
 K0 (IntKind.wrap .i64 (s0 + 1)) h0
 )
 ) (
 Q true h0
 )
 ) 0 h
 )
def ratio_isOne (x0 : Sl) (h : Heap) (Q : Bool → Heap → Prop) : Prop :=
 ratio_one h fun v h0 =>
 slices_Equal_api_Nat_uint32 x0 v h0 fun v_1 h0u1 =>
 Q v_1 h0u1
def nat_New (limbs : Int) (h : Heap) (Q : ((Option Addr)) → Heap → Prop) : Prop :=
 new [Value.int .i64 (if 1 > limbs then 1 else limbs), Value.bool false] h fun a h0 =>
 Q (some a) h0
def ratio_free (h : Heap) (Q : ((Option Addr)) → Heap → Prop) : Prop :=
 nat_New 16777216 h fun v h0 =>
 Q v h0
def ratio_den (x0 : Bool × Sl × Sl) (h : Heap) (Q : Sl → Heap → Prop) : Prop :=
 mem h fun h0 =>
 iteB (((x0.2.2.len : Nat) : Int) == 0) (
 ratio_one h0 fun v h0u1 =>
 Q v h0u1
 ) (
 Q x0.2.2 h0
 )
def nat_small (x0 : Sl) (h : Heap) (Q : (Int × Bool) → Heap → Prop) : Prop :=
 nat_trim x0 h fun v h0 =>
 Let (IntKind.wrap .i64 (((v.len : Nat) : Int) - 1) : Int) fun i =>
 loop (fun (s0 : Int × Int) h0u1 (K0 : (Int × Int) → Heap → Prop) =>
 iteB (decide (s0.2 ≥ 0)) (
 idxS v s0.2 1 fun a =>
 Lift.load (Value.int .u32) a h0u1 fun v_1 =>
 Let (IntKind.wrap .u64 (((BitVec.ofInt (IntKind.bits .u64) (IntKind.wrap .u64 (s0.1 * 2 ^ (min (Int.toNat 32) (IntKind.bits .u64)))) ||| BitVec.ofInt (IntKind.bits .u64) (IntKind.wrap .u64 v_1)).toNat : Int)) : Int) fun n =>
 Let (IntKind.wrap .i64 (s0.2 - 1) : Int) fun i_1 =>
 K0 (n, i_1) h0u1
 ) (
 Let (decide (((v.len : Nat) : Int) ≤ 2) : Bool) fun ok =>
 Q (s0.1, ok) h0u1
 )
 ) (0, i) h0
def math_bits_TrailingZeros32 (x0 : Int) (h : Heap) (Q : Int → Heap → Prop) : Prop :=
 iteB (x0 == 0) (
 Q 32 h
 ) (
 ((0 : Int) ≤ ((Int.fdiv (IntKind.wrap .u32 ((IntKind.wrap .u32 (((BitVec.ofInt (IntKind.bits .u32) x0 &&& BitVec.ofInt (IntKind.bits .u32) (IntKind.wrap .u32 (0 - x0))).toNat : Int))) * 125613361)) (2 ^ (min (Int.toNat 27) (IntKind.bits .u32)))) : Int) ∧ ((Int.fdiv (IntKind.wrap .u32 ((IntKind.wrap .u32 (((BitVec.ofInt (IntKind.bits .u32) x0 &&& BitVec.ofInt (IntKind.bits .u32) (IntKind.wrap .u32 (0 - x0))).toNat : Int))) * 125613361)) (2 ^ (min (Int.toNat 27) (IntKind.bits .u32)))) : Int) < 32) ∧
 Lift.load (Value.int .u8) ((⟨g_math_bits_deBruijn32tab, 0, none⟩ : Addr).add (Int.toNat (Int.fdiv (IntKind.wrap .u32 ((IntKind.wrap .u32 (((BitVec.ofInt (IntKind.bits .u32) x0 &&& BitVec.ofInt (IntKind.bits .u32) (IntKind.wrap .u32 (0 - x0))).toNat : Int))) * 125613361)) (2 ^ (min (Int.toNat 27) (IntKind.bits .u32)))) * 1)) h fun v =>
 Q (IntKind.wrap .i64 v) h
 )
def slices_Clone_api_Nat_uint32 (s0 : Sl) (h : Heap) (Q : Sl → Heap → Prop) : Prop :=
 iteB s0.a.isNone (
 Q Sl.nil h
 ) (
 new [] h fun a h0 =>
 appendS 1 4 (⟨some a, 0, 0⟩ : Sl) s0 h0 fun v_1 h0u1 =>
 Q v_1 h0u1
 )
def nat_halve (x0 : Sl) (h : Heap) (Q : (Sl × Int) → Heap → Prop) : Prop :=
 loop (fun (s0 : Int) h0 (K0 : Int → Heap → Prop) =>
 idxS x0 (IntKind.wrap .i64 (Int.tdiv s0 32)) 1 fun a =>
 Lift.load (Value.int .u32) a h0 fun v =>
 iteB (v == 0) (
 Let (IntKind.wrap .i64 (s0 + 32) : Int) fun k =>
 K0 k h0
 ) (
 idxS x0 (IntKind.wrap .i64 (Int.tdiv s0 32)) 1 fun a_1 =>
 Lift.load (Value.int .u32) a_1 h0 fun v_1 =>
 math_bits_TrailingZeros32 v_1 h0 fun v_2 h0u1 =>
 Let (IntKind.wrap .i64 (s0 + v_2) : Int) fun k_1 =>
 sliceOf x0 (some (IntKind.wrap .i64 (Int.tdiv k_1 32))) none none 1 fun v_3 =>
 slices_Clone_api_Nat_uint32 v_3 h0u1 fun v_4 h0u2 =>
 seq (fun (K0u1 : Unit → Heap → Prop) =>
 Let (Int.tmod k_1 32 : Int) fun s0u1 =>
 iteB (decide (s0u1 > 0)) (
 loop (fun (s0u2 : Int) h0u4 (K0u2 : Int → Heap → Prop) =>
 iteB (decide (s0u2 < ((v_4.len : Nat) : Int))) (
 seq (fun (K0u3 : Unit → Heap → Prop) =>
 idxS v_4 s0u2 1 fun a_2 =>
 Lift.load (Value.int .u32) a_2 h0u4 fun v_5 =>
 (0 ≤ s0u1) ∧
 idxS v_4 s0u2 1 fun a_3 =>
 Lift.store a_3 (Value.int .u32 (Int.fdiv v_5 (2 ^ (min (Int.toNat s0u1) (IntKind.bits .u32))))) h0u4 fun h0u6 =>
 iteB (decide ((IntKind.wrap .i64 (s0u2 + 1)) < ((v_4.len : Nat) : Int))) (
 idxS v_4 s0u2 1 fun a_4 =>
 Lift.load (Value.int .u32) a_4 h0u6 fun v_6 =>
 idxS v_4 (IntKind.wrap .i64 (s0u2 + 1)) 1 fun a_5 =>
 Lift.load (Value.int .u32) a_5 h0u6 fun v_7 =>
 (0 ≤ (IntKind.wrap .i64 (32 - s0u1))) ∧
 idxS v_4 s0u2 1 fun a_6 =>
 Lift.store a_6 (Value.int .u32 (IntKind.wrap .u32 (((BitVec.ofInt (IntKind.bits .u32) v_6 ||| BitVec.ofInt (IntKind.bits .u32) (IntKind.wrap .u32 (v_7 * 2 ^ (min (Int.toNat (IntKind.wrap .i64 (32 - s0u1))) (IntKind.bits .u32))))).toNat : Int)))) h0u6 fun h0u7 =>
 K0u3 () h0u7
 ) (
 K0u3 () h0u6
 )
 ) (fun t0u1 h0u5 =>
 K0u2 (IntKind.wrap .i64 (s0u2 + 1)) h0u5
 )
 ) (
 K0u1 () h0u4
 )
 ) 0 h0u2
 ) (
 K0u1 () h0u2
 )
 ) (fun t0 h0u3 =>
 nat_trim v_4 h0u3 fun v_8 h0u8 =>
 Q (v_8, k_1) h0u8
 )
 )
 ) 0 h
def nat_sign (n : Int) (h : Heap) (Q : Int → Heap → Prop) : Prop :=
 Q (if (-1) > (if 1 < n then 1 else n) then (-1) else (if 1 < n then 1 else n)) h
def nat_Cmp (x0 : Sl) (y : Sl) (h : Heap) (Q : Int → Heap → Prop) : Prop :=
 nat_trim x0 h fun v h0 =>
 nat_trim y h0 fun v_1 h0u1 =>
 iteB (((v.len : Nat) : Int) != ((v_1.len : Nat) : Int)) (
 nat_sign (IntKind.wrap .i64 (((v.len : Nat) : Int) - ((v_1.len : Nat) : Int))) h0u1 fun v_2 h0u2 =>
 Q v_2 h0u2
 ) (
 Let (IntKind.wrap .i64 (((v.len : Nat) : Int) - 1) : Int) fun i =>
 loop (fun (s0 : Int) h0u3 (K0 : Int → Heap → Prop) =>
 iteB (decide (s0 ≥ 0)) (
 idxS v s0 1 fun a =>
 Lift.load (Value.int .u32) a h0u3 fun v_3 =>
 idxS v_1 s0 1 fun a_1 =>
 Lift.load (Value.int .u32) a_1 h0u3 fun v_4 =>
 iteB (v_3 != v_4) (
 idxS v s0 1 fun a_2 =>
 Lift.load (Value.int .u32) a_2 h0u3 fun v_5 =>
 idxS v_1 s0 1 fun a_3 =>
 Lift.load (Value.int .u32) a_3 h0u3 fun v_6 =>
 nat_sign (IntKind.wrap .i64 ((IntKind.wrap .i64 v_5) - (IntKind.wrap .i64 v_6))) h0u3 fun v_7 h0u4 =>
 Q v_7 h0u4
 ) (
 Let (IntKind.wrap .i64 (s0 - 1) : Int) fun i_1 =>
 K0 i_1 h0u3
 )
 ) (
 Q 0 h0u3
 )
 ) i h0u1
 )
def nat_minus (x0 : Sl) (y : Sl) (h : Heap) (Q : Sl → Heap → Prop) : Prop :=
 loop (fun (s0 : Sl × Int × Int) h0 (K0 : (Sl × Int × Int) → Heap → Prop) =>
 iteB (decide (s0.2.2 < ((x0.len : Nat) : Int))) (
 idxS x0 s0.2.2 1 fun a =>
 Lift.load (Value.int .u32) a h0 fun v =>
 Let (IntKind.wrap .u64 ((IntKind.wrap .u64 v) - s0.2.1) : Int) fun d =>
 seq (fun (K0u1 : Int → Heap → Prop) =>
 iteB (decide (s0.2.2 < ((y.len : Nat) : Int))) (
 idxS y s0.2.2 1 fun a_1 =>
 Lift.load (Value.int .u32) a_1 h0 fun v_1 =>
 Let (IntKind.wrap .u64 (d - (IntKind.wrap .u64 v_1)) : Int) fun d_1 =>
 K0u1 d_1 h0
 ) (
 K0u1 d h0
 )
 ) (fun t0 h0u1 =>
 new [Value.int .u32 (IntKind.wrap .u32 t0)] h0u1 fun a_2 h0u2 =>
 appendS 1 4 s0.1 (⟨some a_2, 1, 1⟩ : Sl) h0u2 fun v_3 h0u3 =>
 Let (Int.fdiv t0 (2 ^ (min (Int.toNat 63) (IntKind.bits .u64))) : Int) fun borrow =>
 K0 (v_3, borrow, IntKind.wrap .i64 (s0.2.2 + 1)) h0u3
 )
 ) (
 nat_trim s0.1 h0 fun v_4 h0u4 =>
 Q v_4 h0u4
 )
 ) (Sl.nil, 0, 0) h
def nat_times (x0 : Sl) (y : Sl) (h : Heap) (Q : Sl → Heap → Prop) : Prop :=
 Let (IntKind.wrap .i64 (((x0.len : Nat) : Int) + ((y.len : Nat) : Int)) : Int) fun t15 =>
 mkS [Value.int .u32 0] 4 t15 t15 h fun v h0 =>
 loop (fun (s0 : Int) h0u1 (K0 : Int → Heap → Prop) =>
 iteB (decide (s0 < ((x0.len : Nat) : Int))) (
 idxS x0 s0 1 fun a =>
 Lift.load (Value.int .u32) a h0u1 fun v_1 =>
 loop (fun (s0u1 : Int × Int) h0u2 (K0u1 : (Int × Int) → Heap → Prop) =>
 iteB (decide (s0u1.2 < ((y.len : Nat) : Int))) (
 idxS y s0u1.2 1 fun a_1 =>
 Lift.load (Value.int .u32) a_1 h0u2 fun v_2 =>
 idxS v (IntKind.wrap .i64 (s0 + s0u1.2)) 1 fun a_2 =>
 Lift.load (Value.int .u32) a_2 h0u2 fun v_3 =>
 Let (IntKind.wrap .u64 (s0u1.1 + (IntKind.wrap .u64 ((IntKind.wrap .u64 ((IntKind.wrap .u64 v_1) * (IntKind.wrap .u64 v_2))) + (IntKind.wrap .u64 v_3)))) : Int) fun carry =>
 idxS v (IntKind.wrap .i64 (s0 + s0u1.2)) 1 fun a_3 =>
 Lift.store a_3 (Value.int .u32 (IntKind.wrap .u32 carry)) h0u2 fun h0u3 =>
 Let (Int.fdiv carry (2 ^ (min (Int.toNat 32) (IntKind.bits .u64))) : Int) fun carry_1 =>
 K0u1 (carry_1, IntKind.wrap .i64 (s0u1.2 + 1)) h0u3
 ) (
 idxS v (IntKind.wrap .i64 (s0 + ((y.len : Nat) : Int))) 1 fun a_4 =>
 Lift.store a_4 (Value.int .u32 (IntKind.wrap .u32 s0u1.1)) h0u2 fun h0u4 =>
 K0 (IntKind.wrap .i64 (s0 + 1)) h0u4
 )
 ) (0, 0) h0u1
 ) (
 Q v h0u1
 )
 ) 0 h0
def nat_double (x0 : Sl) (k : Int) (h : Heap) (Q : Sl → Heap → Prop) : Prop :=
 Let (IntKind.wrap .i64 ((IntKind.wrap .i64 (Int.tdiv k 32)) + 1) : Int) fun t8 =>
 mkS [Value.int .u32 0] 4 t8 t8 h fun v h0 =>
 (0 ≤ (Int.tmod k 32)) ∧
 idxS v (IntKind.wrap .i64 (Int.tdiv k 32)) 1 fun a =>
 Lift.store a (Value.int .u32 (IntKind.wrap .u32 (1 * 2 ^ (min (Int.toNat (Int.tmod k 32)) (IntKind.bits .u32))))) h0 fun h0u1 =>
 nat_times x0 v h0u1 fun v_1 h0u2 =>
 nat_trim v_1 h0u2 fun v_2 h0u3 =>
 Q v_2 h0u3
def nat_common (x0 : Sl) (y : Sl) (h : Heap) (Q : Sl → Heap → Prop) : Prop :=
 nat_trim x0 h fun v h0 =>
 nat_trim y h0 fun v_1 h0u1 =>
 iteB (((v.len : Nat) : Int) == 0) (
 Q v_1 h0u1
 ) (
 iteB (((v_1.len : Nat) : Int) == 0) (
 Q v h0u1
 ) (
 seq (fun (K0 : Unit → Heap → Prop) =>
 nat_small v h0u1 fun v_2 h0u3 =>
 iteB v_2.2 (
 nat_small v_1 h0u3 fun v_3 h0u4 =>
 iteB v_3.2 (
 loop (fun (s0 : Int × Int) h0u5 (K0u1 : (Int × Int) → Heap → Prop) =>
 iteB (s0.2 != 0) (
 (s0.2 ≠ 0) ∧
 Let (Int.tmod s0.1 s0.2 : Int) fun m0 =>
 K0u1 (s0.2, m0) h0u5
 ) (
 nat_Of s0.1 h0u5 fun v_4 h0u6 =>
 Q v_4 h0u6
 )
 ) (v_2.1, v_3.1) h0u4
 ) (
 K0 () h0u4
 )
 ) (
 K0 () h0u3
 )
 ) (fun t0 h0u2 =>
 nat_halve v h0u2 fun v_5 h0u7 =>
 nat_halve v_1 h0u7 fun v_6 h0u8 =>
 loop (fun (s0u1 : Sl × Sl) h0u9 (K0u2 : (Sl × Sl) → Heap → Prop) =>
 nat_Cmp s0u1.1 s0u1.2 h0u9 fun v_7 h0u10 =>
 iteB (v_7 != 0) (
 seq (fun (K0u3 : (Sl × Sl) → Heap → Prop) =>
 nat_Cmp s0u1.1 s0u1.2 h0u10 fun v_8 h0u12 =>
 iteB (decide (v_8 < 0)) (
 K0u3 (s0u1.2, s0u1.1) h0u12
 ) (
 K0u3 (s0u1.1, s0u1.2) h0u12
 )
 ) (fun t0u1 h0u11 =>
 nat_minus t0u1.1 t0u1.2 h0u11 fun v_9 h0u13 =>
 nat_halve v_9 h0u13 fun v_10 h0u14 =>
 K0u2 (v_10.1, t0u1.2) h0u14
 )
 ) (
 nat_double s0u1.1 (if v_6.2 < v_5.2 then v_6.2 else v_5.2) h0u10 fun v_11 h0u15 =>
 Q v_11 h0u15
 )
 ) (v_5.1, v_6.1) h0u8
 )
 )
 )
def nat_Bench_fit (b : (Option Addr)) (x0 : Sl) (h : Heap) (Q : Sl → Heap → Prop) : Prop :=
 nat_trim x0 h fun v h0 =>
 seq (fun (K0 : Unit → Heap → Prop) =>
 nilChk b fun a =>
 Lift.load Value.bool (a.add 1) h0 fun v_1 =>
 iteB v_1 (
 nilChk b fun a_1 =>
 Lift.store (a_1.add 1) (Value.bool true) h0 fun h0u2 =>
 K0 () h0u2
 ) (
 nilChk b fun a_2 =>
 Lift.load (Value.int .i64) (a_2.add 0) h0 fun v_2 =>
 nilChk b fun a_3 =>
 Lift.store (a_3.add 1) (Value.bool (decide (((v.len : Nat) : Int) > v_2))) h0 fun h0u3 =>
 K0 () h0u3
 )
 ) (fun t0 h0u1 =>
 nilChk b fun a_4 =>
 Lift.load Value.bool (a_4.add 1) h0u1 fun v_3 =>
 iteB v_3 (
 Q Sl.nil h0u1
 ) (
 slices_Clone_api_Nat_uint32 v h0u1 fun v_4 h0u4 =>
 Q v_4 h0u4
 )
 )
def nat_Bench_Gcd (b : (Option Addr)) (x0 : Sl) (y : Sl) (h : Heap) (Q : Sl → Heap → Prop) : Prop :=
 nat_common x0 y h fun v h0 =>
 nat_Bench_fit b v h0 fun v_1 h0u1 =>
 Q v_1 h0u1
def ratio_Right (x0 : Bool × Sl × Sl) (h : Heap) (Q : Bool → Heap → Prop) : Prop :=
 mem h fun h0 =>
 seq (fun (K0 : Bool → Heap → Prop) =>
 nat_Right x0.2.1 h0 fun v h0u2 =>
 iteB (!v) (
 K0 true h0u2
 ) (
 nat_Right x0.2.2 h0u2 fun v_1 h0u3 =>
 iteB (!v_1) (
 K0 true h0u3
 ) (
 ratio_isOne x0.2.2 h0u3 fun v_2 h0u4 =>
 K0 v_2 h0u4
 )
 )
 ) (fun t0 h0u1 =>
 iteB t0 (
 Q false h0u1
 ) (
 iteB (((x0.2.1.len : Nat) : Int) == 0) (
 seq (fun (K0u1 : Bool → Heap → Prop) =>
 iteB (!x0.1) (
 K0u1 (((x0.2.2.len : Nat) : Int) == 0) h0u1
 ) (
 K0u1 false h0u1
 )
 ) (fun t0u1 h0u5 =>
 Q t0u1 h0u5
 )
 ) (
 ratio_free h0u1 fun v_3 h0u6 =>
 ratio_den (x0.1, x0.2.1, x0.2.2) h0u6 fun v_4 h0u7 =>
 nat_Bench_Gcd v_3 x0.2.1 v_4 h0u7 fun v_5 h0u8 =>
 ratio_isOne v_5 h0u8 fun v_6 h0u9 =>
 Q v_6 h0u9
 )
 )
 )
def linear_Right (p : Bool × Sl × Sl × Sl) (h : Heap) (Q : Bool → Heap → Prop) : Prop :=
 mem h fun h0 =>
 loop (fun (s0 : Int × Int) h0u1 (K0 : (Int × Int) → Heap → Prop) =>
 iteB (decide (s0.2 < ((p.2.2.2.len : Nat) : Int))) (
 idxS p.2.2.2 s0.2 4 fun a =>
 loadS C_i64ubool_sl_sl 4 a h0u1 fun v =>
 mem h0u1 fun h0u2 =>
 seq (fun (K0u1 : Bool → Heap → Prop) =>
 iteB (decide (v.1 ≤ s0.1)) (
 K0u1 true h0u2
 ) (
 ratio_Sign (v.2.1, v.2.2.1, v.2.2.2) h0u2 fun v_1 h0u4 =>
 iteB (v_1 == 0) (
 K0u1 true h0u4
 ) (
 ratio_Right (v.2.1, v.2.2.1, v.2.2.2) h0u4 fun v_2 h0u5 =>
 K0u1 (!v_2) h0u5
 )
 )
 ) (fun t0 h0u3 =>
 iteB t0 (
 Q false h0u3
 ) (
 K0 (v.1, IntKind.wrap .i64 (s0.2 + 1)) h0u3
 )
 )
 ) (
 ratio_Right (p.1, p.2.1, p.2.2.1) h0u1 fun v_3 h0u6 =>
 Q v_3 h0u6
 )
 ) ((-1), 0) h0
def cnf_rowed_c1 (q : Bool × Sl × Sl × Sl) (c0 : Addr) (h : Heap) (Q : Bool → Heap → Prop) : Prop :=
 mem h fun h0 =>
 seq (fun (K0 : Bool → Heap → Prop) =>
 linear_Right (q.1, q.2.1, q.2.2.1, q.2.2.2) h0 fun v h0u2 =>
 iteB v (
 iteB (decide (((q.2.2.2.len : Nat) : Int) > 1)) (
 ratio_Sign (q.1, q.2.1, q.2.2.1) h0u2 fun v_1 h0u3 =>
 iteB (v_1 == 0) (
 idxS q.2.2.2 (IntKind.wrap .i64 (((q.2.2.2.len : Nat) : Int) - 1)) 4 fun a =>
 Lift.load (Value.int .i64) (a.add 0) h0u3 fun v_2 =>
 Lift.load (Value.int .i64) (c0.add 1) h0u3 fun v_3 =>
 K0 (decide (v_2 < v_3)) h0u3
 ) (
 K0 false h0u3
 )
 ) (
 K0 false h0u2
 )
 ) (
 K0 false h0u2
 )
 ) (fun t0 h0u1 =>
 Q t0 h0u1
 )
def cnf_Right_c3 (q : Bool × Sl × Sl × Sl) (c0 : Addr) (h : Heap) (Q : Bool → Heap → Prop) : Prop :=
 mem h fun h0 =>
 Lift.load FnV.toV c0 h0 fun v =>
 dyn (fun (K0 : Bool → Heap → Prop) =>
 (∃ (dc1u0 : Addr), v = FnV.mk 145 [] [Value.pointer (some dc1u0)] ∧ cnf_rowed_c1 (q.1, q.2.1, q.2.2.1, q.2.2.2) dc1u0 h0 K0)
 ) fun v_1 h0u1 =>
 Q (!v_1) h0u1
def slices_IndexFunc_api_Poly_api_Poly__cnf_Right_c3 (s0 : Sl) (f_c : Addr) (h : Heap) (Q : Int → Heap → Prop) : Prop :=
 loop (fun (s0u1 : Int) h0 (K0 : Int → Heap → Prop) =>
 iteB (decide (s0u1 < ((s0.len : Nat) : Int))) (
 idxS s0 s0u1 4 fun a =>
 loadS C_bool_sl_sl_sl 4 a h0 fun v =>
 cnf_Right_c3 (v.1, v.2.1, v.2.2.1, v.2.2.2) f_c h0 fun v_1 h0u1 =>
 iteB v_1 (
 Q s0u1 h0u1
 ) (
 K0 (IntKind.wrap .i64 (s0u1 + 1)) h0u1
 )
 ) (
 Q (-1) h0
 )
 ) 0 h
def slices_ContainsFunc_api_Poly_api_Poly__cnf_Right_c3 (s0 : Sl) (f_c : Addr) (h : Heap) (Q : Bool → Heap → Prop) : Prop :=
 slices_IndexFunc_api_Poly_api_Poly__cnf_Right_c3 s0 f_c h fun v h0 =>
 Q (decide (v ≥ 0)) h0
def nat_Bench_Mul (b : (Option Addr)) (x0 : Sl) (y : Sl) (h : Heap) (Q : Sl → Heap → Prop) : Prop :=
 nat_trim x0 h fun v h0 =>
 nat_trim y h0 fun v_1 h0u1 =>
 nat_times v v_1 h0u1 fun v_2 h0u2 =>
 nat_Bench_fit b v_2 h0u2 fun v_3 h0u3 =>
 Q v_3 h0u3
def ratio_over (x0 : Bool × Sl) (n : Sl) (h : Heap) (Q : (Bool × Sl) → Heap → Prop) : Prop :=
 mem h fun h0 =>
 ratio_free h0 fun v h0u1 =>
 nat_Bench_Mul v x0.2 n h0u1 fun v_1 h0u2 =>
 Q (x0.1, v_1) h0u2
def ratio_cross (x0 : Bool × Sl × Sl) (y : Bool × Sl × Sl) (h : Heap) (Q : ((Bool × Sl) × (Bool × Sl)) → Heap → Prop) : Prop :=
 mem h fun h0 =>
 ratio_den (y.1, y.2.1, y.2.2) h0 fun v h0u1 =>
 ratio_over (x0.1, x0.2.1) v h0u1 fun v_1 h0u2 =>
 ratio_den (x0.1, x0.2.1, x0.2.2) h0u2 fun v_2 h0u3 =>
 ratio_over (y.1, y.2.1) v_2 h0u3 fun v_3 h0u4 =>
 Q ((v_1.1, v_1.2), (v_3.1, v_3.2)) h0u4
def nat_plus (x0 : Sl) (y : Sl) (h : Heap) (Q : Sl → Heap → Prop) : Prop :=
 loop (fun (s0 : Sl × Int × Int) h0 (K0 : (Sl × Int × Int) → Heap → Prop) =>
 iteB (decide (s0.2.2 < (if ((y.len : Nat) : Int) > ((x0.len : Nat) : Int) then ((y.len : Nat) : Int) else ((x0.len : Nat) : Int)))) (
 loop (fun (s0u1 : Int × Int) h0u1 (K0u1 : (Int × Int) → Heap → Prop) =>
 iteB (decide (s0u1.2 < 2)) (
 seq (fun (K0u2 : Int → Heap → Prop) =>
 idxV Sl.toV [Sl.toV x0, Sl.toV y] 2 s0u1.2 1 fun v =>
 iteB (decide (s0.2.2 < ((v.len : Nat) : Int))) (
 idxS v s0.2.2 1 fun a =>
 Lift.load (Value.int .u32) a h0u1 fun v_1 =>
 Let (IntKind.wrap .u64 (s0u1.1 + (IntKind.wrap .u64 v_1)) : Int) fun carry =>
 K0u2 carry h0u1
 ) (
 K0u2 s0u1.1 h0u1
 )
 ) (fun t0 h0u2 =>
 K0u1 (t0, IntKind.wrap .i64 (s0u1.2 + 1)) h0u2
 )
 ) (
 new [Value.int .u32 (IntKind.wrap .u32 s0u1.1)] h0u1 fun a_1 h0u3 =>
 appendS 1 4 s0.1 (⟨some a_1, 1, 1⟩ : Sl) h0u3 fun v_3 h0u4 =>
 Let (Int.fdiv s0u1.1 (2 ^ (min (Int.toNat 32) (IntKind.bits .u64))) : Int) fun carry_1 =>
 K0 (v_3, carry_1, IntKind.wrap .i64 (s0.2.2 + 1)) h0u4
 )
 ) (s0.2.1, 0) h0
 ) (
 new [Value.int .u32 (IntKind.wrap .u32 s0.2.1)] h0 fun a_2 h0u5 =>
 appendS 1 4 s0.1 (⟨some a_2, 1, 1⟩ : Sl) h0u5 fun v_5 h0u6 =>
 Q v_5 h0u6
 )
 ) (Sl.nil, 0, 0) h
def nat_Bench_Add (b : (Option Addr)) (x0 : Sl) (y : Sl) (h : Heap) (Q : Sl → Heap → Prop) : Prop :=
 nat_plus x0 y h fun v h0 =>
 nat_Bench_fit b v h0 fun v_1 h0u1 =>
 Q v_1 h0u1
def nat_Bench_Sub (b : (Option Addr)) (x0 : Sl) (y : Sl) (h : Heap) (Q : Sl → Heap → Prop) : Prop :=
 nat_Cmp x0 y h fun v h0 =>
 iteB (decide (v < 0)) (
 Q Sl.nil h0
 ) (
 nat_trim y h0 fun v_1 h0u1 =>
 nat_minus x0 v_1 h0u1 fun v_2 h0u2 =>
 nat_Bench_fit b v_2 h0u2 fun v_3 h0u3 =>
 Q v_3 h0u3
 )
def ratio_sum (x0 : Bool × Sl) (y : Bool × Sl) (h : Heap) (Q : (Bool × Sl) → Heap → Prop) : Prop :=
 mem h fun h0 =>
 ratio_free h0 fun v h0u1 =>
 iteB (x0.1 == y.1) (
 nat_Bench_Add v x0.2 y.2 h0u1 fun v_1 h0u2 =>
 Q (x0.1, v_1) h0u2
 ) (
 nat_Cmp x0.2 y.2 h0u1 fun v_2 h0u3 =>
 iteB (decide (v_2 ≥ 0)) (
 nat_Bench_Sub v x0.2 y.2 h0u3 fun v_3 h0u4 =>
 Q (x0.1, v_3) h0u4
 ) (
 nat_Bench_Sub v y.2 x0.2 h0u3 fun v_4 h0u5 =>
 Q (y.1, v_4) h0u5
 )
 )
def ratio_Cmp (x0 : Bool × Sl × Sl) (y : Bool × Sl × Sl) (h : Heap) (Q : Int → Heap → Prop) : Prop :=
 mem h fun h0 =>
 ratio_cross (x0.1, x0.2.1, x0.2.2) (y.1, y.2.1, y.2.2) h0 fun v h0u1 =>
 mem h0u1 fun h0u2 =>
 ratio_sum (v.1.1, v.1.2) ((!v.2.1), v.2.2) h0u2 fun v_1 h0u3 =>
 mem h0u3 fun h0u4 =>
 iteB (((v_1.2.len : Nat) : Int) == 0) (
 Q 0 h0u4
 ) (
 iteB v_1.1 (
 Q (-1) h0u4
 ) (
 Q 1 h0u4
 )
 )
def cnf_atomic_c1 (a : Int × Int × Int × Bool × Sl × Sl × Bool × Sl × Sl) (c0 : Addr) (c1 : Addr) (h : Heap) (Q : Bool → Heap → Prop) : Prop :=
 mem h fun h0 =>
 seq (fun (K0 : Bool → Heap → Prop) =>
 iteB (a.2.2.1 == (-1)) (
 iteB (decide (a.2.1 ≥ 0)) (
 Lift.load (Value.int .i64) (c0.add 1) h0 fun v =>
 iteB (decide (a.2.1 < v)) (
 K0 true h0
 ) (
 iteB (decide (a.2.2.1 ≥ 0)) (
 Lift.load Sl.toV (c0.add 2) h0 fun v_1 =>
 iteB (decide (a.2.2.1 < ((v_1.len : Nat) : Int))) (
 Let ((a.2.1 == 0) : Bool) fun over =>
 K0 over h0
 ) (
 K0 false h0
 )
 ) (
 K0 false h0
 )
 )
 ) (
 iteB (decide (a.2.2.1 ≥ 0)) (
 Lift.load Sl.toV (c0.add 2) h0 fun v_2 =>
 iteB (decide (a.2.2.1 < ((v_2.len : Nat) : Int))) (
 Let ((a.2.1 == 0) : Bool) fun over_1 =>
 K0 over_1 h0
 ) (
 K0 false h0
 )
 ) (
 K0 false h0
 )
 )
 ) (
 iteB (decide (a.2.2.1 ≥ 0)) (
 Lift.load Sl.toV (c0.add 2) h0 fun v_3 =>
 iteB (decide (a.2.2.1 < ((v_3.len : Nat) : Int))) (
 Let ((a.2.1 == 0) : Bool) fun over_2 =>
 K0 over_2 h0
 ) (
 K0 false h0
 )
 ) (
 K0 false h0
 )
 )
 ) (fun t0 h0u1 =>
 seq (fun (K0u1 : Bool → Heap → Prop) =>
 ratio_Sign (a.2.2.2.2.2.2.1, a.2.2.2.2.2.2.2.1, a.2.2.2.2.2.2.2.2) h0u1 fun v_4 h0u3 =>
 iteB (v_4 == 0) (
 K0u1 true h0u3
 ) (
 ratio_Of (-1) h0u3 fun v_5 h0u4 =>
 ratio_Cmp (a.2.2.2.2.2.2.1, a.2.2.2.2.2.2.2.1, a.2.2.2.2.2.2.2.2) (v_5.1, v_5.2.1, v_5.2.2) h0u4 fun v_6 h0u5 =>
 K0u1 (v_6 == 0) h0u5
 )
 ) (fun t0u1 h0u2 =>
 seq (fun (K0u2 : Bool → Heap → Prop) =>
 iteB t0 (
 iteB t0u1 (
 iteB (decide (a.1 ≥ 0)) (
 Lift.load (Value.int .i64) (c0.add 0) h0u2 fun v_7 =>
 iteB (decide (a.1 < v_7)) (
 Lift.load Value.map c1 h0u2 fun v_8 =>
 lookM .i64 Value.bool false v_8 a.1 h0u2 fun v_9 =>
 iteB (!v_9.1) (
 ratio_Right (a.2.2.2.1, a.2.2.2.2.1, a.2.2.2.2.2.1) h0u2 fun v_10 h0u7 =>
 iteB v_10 (
 ratio_Right (a.2.2.2.2.2.2.1, a.2.2.2.2.2.2.2.1, a.2.2.2.2.2.2.2.2) h0u7 fun v_11 h0u8 =>
 K0u2 v_11 h0u8
 ) (
 K0u2 false h0u7
 )
 ) (
 K0u2 false h0u2
 )
 ) (
 K0u2 false h0u2
 )
 ) (
 K0u2 false h0u2
 )
 ) (
 K0u2 false h0u2
 )
 ) (
 K0u2 false h0u2
 )
 ) (fun t0u2 h0u6 =>
 Lift.load Value.map c1 h0u6 fun v_12 =>
 setM .i64 Value.bool v_12 a.1 true h0u6 fun h0u9 =>
 Q t0u2 h0u9
 )
 )
 )
def cnf_Right_c4 (a : Int × Int × Int × Bool × Sl × Sl × Bool × Sl × Sl) (c0 : Addr) (h : Heap) (Q : Bool → Heap → Prop) : Prop :=
 mem h fun h0 =>
 Lift.load FnV.toV c0 h0 fun v =>
 dyn (fun (K0 : Bool → Heap → Prop) =>
 (∃ (dc1u0 : Addr) (dc1u1 : Addr), v = FnV.mk 146 [] [Value.pointer (some dc1u0), Value.pointer (some dc1u1)] ∧ cnf_atomic_c1 (a.1, a.2.1, a.2.2.1, a.2.2.2.1, a.2.2.2.2.1, a.2.2.2.2.2.1, a.2.2.2.2.2.2.1, a.2.2.2.2.2.2.2.1, a.2.2.2.2.2.2.2.2) dc1u0 dc1u1 h0 K0)
 ) fun v_1 h0u1 =>
 Q (!v_1) h0u1
def slices_IndexFunc_api_Atom_api_Atom__cnf_Right_c4 (s0 : Sl) (f_c : Addr) (h : Heap) (Q : Int → Heap → Prop) : Prop :=
 loop (fun (s0u1 : Int) h0 (K0 : Int → Heap → Prop) =>
 iteB (decide (s0u1 < ((s0.len : Nat) : Int))) (
 idxS s0 s0u1 9 fun a =>
 loadS C_i64ui64ui64ubool_sl_sl_bool_sl_sl 9 a h0 fun v =>
 cnf_Right_c4 (v.1, v.2.1, v.2.2.1, v.2.2.2.1, v.2.2.2.2.1, v.2.2.2.2.2.1, v.2.2.2.2.2.2.1, v.2.2.2.2.2.2.2.1, v.2.2.2.2.2.2.2.2) f_c h0 fun v_1 h0u1 =>
 iteB v_1 (
 Q s0u1 h0u1
 ) (
 K0 (IntKind.wrap .i64 (s0u1 + 1)) h0u1
 )
 ) (
 Q (-1) h0
 )
 ) 0 h
def slices_ContainsFunc_api_Atom_api_Atom__cnf_Right_c4 (s0 : Sl) (f_c : Addr) (h : Heap) (Q : Bool → Heap → Prop) : Prop :=
 slices_IndexFunc_api_Atom_api_Atom__cnf_Right_c4 s0 f_c h fun v h0 =>
 Q (decide (v ≥ 0)) h0
def cnf_Right (p : Int × Int × Sl × Sl × Sl × Sl × Sl) (h : Heap) (Q : Bool → Heap → Prop) : Prop :=
 new [Value.int .i64 p.1, Value.int .i64 p.2.1, Sl.toV p.2.2.1, Sl.toV p.2.2.2.1, Sl.toV p.2.2.2.2.1, Sl.toV p.2.2.2.2.2.1, Sl.toV p.2.2.2.2.2.2] h fun p_1 h0 =>
 new [Value.nilFunc] h0 fun lost h0u1 =>
 Lift.store lost (FnV.toV (FnV.mk 97 [] [Value.pointer (some p_1)])) h0u1 fun h0u2 =>
 seq (fun (K0 : Bool → Heap → Prop) =>
 Lift.load (Value.int .i64) (p_1.add 0) h0u2 fun v =>
 iteB (decide (v < 0)) (
 K0 true h0u2
 ) (
 Lift.load (Value.int .i64) (p_1.add 1) h0u2 fun v_1 =>
 iteB (decide (v_1 < 0)) (
 K0 true h0u2
 ) (
 Lift.load Sl.toV (p_1.add 4) h0u2 fun v_2 =>
 slices_ContainsFunc_int_int__cnf_Right_c2 v_2 lost h0u2 fun v_3 h0u4 =>
 K0 v_3 h0u4
 )
 )
 ) (fun t0 h0u3 =>
 iteB t0 (
 Q false h0u3
 ) (
 seq (fun (K0u1 : (Addr × Addr) → Heap → Prop) =>
 loadS C_i64ui64usl_sl_sl_sl_sl 7 p_1 h0u3 fun v_4 =>
 loadS C_i64ui64usl_sl_sl_sl_sl 7 p_1 h0u3 fun v_5 =>
 (
 cnf_rowed (v_4.1, v_4.2.1, v_4.2.2.1, v_4.2.2.2.1, v_4.2.2.2.2.1, v_4.2.2.2.2.2.1, v_4.2.2.2.2.2.2) h0u3 fun v_6 h0u6 =>
 (cells? h0u6 p_1 7 0 = some [Value.int .i64 v_5.1, Value.int .i64 v_5.2.1, Sl.toV v_5.2.2.1, Sl.toV v_5.2.2.2.1, Sl.toV v_5.2.2.2.2.1, Sl.toV v_5.2.2.2.2.2.1, Sl.toV v_5.2.2.2.2.2.2]) ∧
 (
 cnf_atomic (v_5.1, v_5.2.1, v_5.2.2.1, v_5.2.2.2.1, v_5.2.2.2.2.1, v_5.2.2.2.2.2.1, v_5.2.2.2.2.2.2) h0u6 fun v_7 h0u7 =>
 (
 new [Value.nilFunc] h0u7 fun row h0u8 =>
 new [Value.nilFunc] h0u8 fun atom h0u9 =>
 Lift.store row (FnV.toV v_6) h0u9 fun h0u10 =>
 Lift.store atom (FnV.toV v_7) h0u10 fun h0u11 =>
 K0u1 (row, atom) h0u11
 ) ∧ (
 new [Value.nilFunc] h0u7 fun atom_1 h0u12 =>
 new [Value.nilFunc] h0u12 fun row_1 h0u13 =>
 Lift.store row_1 (FnV.toV v_6) h0u13 fun h0u14 =>
 Lift.store atom_1 (FnV.toV v_7) h0u14 fun h0u15 =>
 K0u1 (row_1, atom_1) h0u15
 )
 ) ∧ (
 new [Value.nilFunc] h0u6 fun row_2 h0u16 =>
 (cells? h0u16 p_1 7 0 = some [Value.int .i64 v_5.1, Value.int .i64 v_5.2.1, Sl.toV v_5.2.2.1, Sl.toV v_5.2.2.2.1, Sl.toV v_5.2.2.2.2.1, Sl.toV v_5.2.2.2.2.2.1, Sl.toV v_5.2.2.2.2.2.2]) ∧
 (
 cnf_atomic (v_5.1, v_5.2.1, v_5.2.2.1, v_5.2.2.2.1, v_5.2.2.2.2.1, v_5.2.2.2.2.2.1, v_5.2.2.2.2.2.2) h0u16 fun v_8 h0u17 =>
 new [Value.nilFunc] h0u17 fun atom_2 h0u18 =>
 Lift.store row_2 (FnV.toV v_6) h0u18 fun h0u19 =>
 Lift.store atom_2 (FnV.toV v_8) h0u19 fun h0u20 =>
 K0u1 (row_2, atom_2) h0u20
 ) ∧ (
 new [Value.nilFunc] h0u16 fun atom_3 h0u21 =>
 (cells? h0u21 p_1 7 0 = some [Value.int .i64 v_5.1, Value.int .i64 v_5.2.1, Sl.toV v_5.2.2.1, Sl.toV v_5.2.2.2.1, Sl.toV v_5.2.2.2.2.1, Sl.toV v_5.2.2.2.2.2.1, Sl.toV v_5.2.2.2.2.2.2]) ∧
 cnf_atomic (v_5.1, v_5.2.1, v_5.2.2.1, v_5.2.2.2.1, v_5.2.2.2.2.1, v_5.2.2.2.2.2.1, v_5.2.2.2.2.2.2) h0u21 fun v_9 h0u22 =>
 Lift.store row_2 (FnV.toV v_6) h0u22 fun h0u23 =>
 Lift.store atom_3 (FnV.toV v_9) h0u23 fun h0u24 =>
 K0u1 (row_2, atom_3) h0u24
 )
 ) ∧ (
 new [Value.nilFunc] h0u6 fun atom_4 h0u25 =>
 (cells? h0u25 p_1 7 0 = some [Value.int .i64 v_5.1, Value.int .i64 v_5.2.1, Sl.toV v_5.2.2.1, Sl.toV v_5.2.2.2.1, Sl.toV v_5.2.2.2.2.1, Sl.toV v_5.2.2.2.2.2.1, Sl.toV v_5.2.2.2.2.2.2]) ∧
 (
 cnf_atomic (v_5.1, v_5.2.1, v_5.2.2.1, v_5.2.2.2.1, v_5.2.2.2.2.1, v_5.2.2.2.2.2.1, v_5.2.2.2.2.2.2) h0u25 fun v_10 h0u26 =>
 new [Value.nilFunc] h0u26 fun row_3 h0u27 =>
 Lift.store row_3 (FnV.toV v_6) h0u27 fun h0u28 =>
 Lift.store atom_4 (FnV.toV v_10) h0u28 fun h0u29 =>
 K0u1 (row_3, atom_4) h0u29
 ) ∧ (
 new [Value.nilFunc] h0u25 fun row_4 h0u30 =>
 (cells? h0u30 p_1 7 0 = some [Value.int .i64 v_5.1, Value.int .i64 v_5.2.1, Sl.toV v_5.2.2.1, Sl.toV v_5.2.2.2.1, Sl.toV v_5.2.2.2.2.1, Sl.toV v_5.2.2.2.2.2.1, Sl.toV v_5.2.2.2.2.2.2]) ∧
 cnf_atomic (v_5.1, v_5.2.1, v_5.2.2.1, v_5.2.2.2.1, v_5.2.2.2.2.1, v_5.2.2.2.2.2.1, v_5.2.2.2.2.2.2) h0u30 fun v_11 h0u31 =>
 Lift.store row_4 (FnV.toV v_6) h0u31 fun h0u32 =>
 Lift.store atom_4 (FnV.toV v_11) h0u32 fun h0u33 =>
 K0u1 (row_4, atom_4) h0u33
 )
 )
 ) ∧ (
 new [Value.nilFunc] h0u3 fun row_5 h0u34 =>
 (cells? h0u34 p_1 7 0 = some [Value.int .i64 v_4.1, Value.int .i64 v_4.2.1, Sl.toV v_4.2.2.1, Sl.toV v_4.2.2.2.1, Sl.toV v_4.2.2.2.2.1, Sl.toV v_4.2.2.2.2.2.1, Sl.toV v_4.2.2.2.2.2.2]) ∧
 (cells? h0u34 p_1 7 0 = some [Value.int .i64 v_5.1, Value.int .i64 v_5.2.1, Sl.toV v_5.2.2.1, Sl.toV v_5.2.2.2.1, Sl.toV v_5.2.2.2.2.1, Sl.toV v_5.2.2.2.2.2.1, Sl.toV v_5.2.2.2.2.2.2]) ∧
 (
 cnf_rowed (v_4.1, v_4.2.1, v_4.2.2.1, v_4.2.2.2.1, v_4.2.2.2.2.1, v_4.2.2.2.2.2.1, v_4.2.2.2.2.2.2) h0u34 fun v_12 h0u35 =>
 (cells? h0u35 p_1 7 0 = some [Value.int .i64 v_5.1, Value.int .i64 v_5.2.1, Sl.toV v_5.2.2.1, Sl.toV v_5.2.2.2.1, Sl.toV v_5.2.2.2.2.1, Sl.toV v_5.2.2.2.2.2.1, Sl.toV v_5.2.2.2.2.2.2]) ∧
 (
 cnf_atomic (v_5.1, v_5.2.1, v_5.2.2.1, v_5.2.2.2.1, v_5.2.2.2.2.1, v_5.2.2.2.2.2.1, v_5.2.2.2.2.2.2) h0u35 fun v_13 h0u36 =>
 new [Value.nilFunc] h0u36 fun atom_5 h0u37 =>
 Lift.store row_5 (FnV.toV v_12) h0u37 fun h0u38 =>
 Lift.store atom_5 (FnV.toV v_13) h0u38 fun h0u39 =>
 K0u1 (row_5, atom_5) h0u39
 ) ∧ (
 new [Value.nilFunc] h0u35 fun atom_6 h0u40 =>
 (cells? h0u40 p_1 7 0 = some [Value.int .i64 v_5.1, Value.int .i64 v_5.2.1, Sl.toV v_5.2.2.1, Sl.toV v_5.2.2.2.1, Sl.toV v_5.2.2.2.2.1, Sl.toV v_5.2.2.2.2.2.1, Sl.toV v_5.2.2.2.2.2.2]) ∧
 cnf_atomic (v_5.1, v_5.2.1, v_5.2.2.1, v_5.2.2.2.1, v_5.2.2.2.2.1, v_5.2.2.2.2.2.1, v_5.2.2.2.2.2.2) h0u40 fun v_14 h0u41 =>
 Lift.store row_5 (FnV.toV v_12) h0u41 fun h0u42 =>
 Lift.store atom_6 (FnV.toV v_14) h0u42 fun h0u43 =>
 K0u1 (row_5, atom_6) h0u43
 )
 ) ∧ (
 new [Value.nilFunc] h0u34 fun atom_7 h0u44 =>
 (cells? h0u44 p_1 7 0 = some [Value.int .i64 v_4.1, Value.int .i64 v_4.2.1, Sl.toV v_4.2.2.1, Sl.toV v_4.2.2.2.1, Sl.toV v_4.2.2.2.2.1, Sl.toV v_4.2.2.2.2.2.1, Sl.toV v_4.2.2.2.2.2.2]) ∧
 (cells? h0u44 p_1 7 0 = some [Value.int .i64 v_5.1, Value.int .i64 v_5.2.1, Sl.toV v_5.2.2.1, Sl.toV v_5.2.2.2.1, Sl.toV v_5.2.2.2.2.1, Sl.toV v_5.2.2.2.2.2.1, Sl.toV v_5.2.2.2.2.2.2]) ∧
 cnf_rowed (v_4.1, v_4.2.1, v_4.2.2.1, v_4.2.2.2.1, v_4.2.2.2.2.1, v_4.2.2.2.2.2.1, v_4.2.2.2.2.2.2) h0u44 fun v_15 h0u45 =>
 (cells? h0u45 p_1 7 0 = some [Value.int .i64 v_5.1, Value.int .i64 v_5.2.1, Sl.toV v_5.2.2.1, Sl.toV v_5.2.2.2.1, Sl.toV v_5.2.2.2.2.1, Sl.toV v_5.2.2.2.2.2.1, Sl.toV v_5.2.2.2.2.2.2]) ∧
 cnf_atomic (v_5.1, v_5.2.1, v_5.2.2.1, v_5.2.2.2.1, v_5.2.2.2.2.1, v_5.2.2.2.2.2.1, v_5.2.2.2.2.2.2) h0u45 fun v_16 h0u46 =>
 Lift.store row_5 (FnV.toV v_15) h0u46 fun h0u47 =>
 Lift.store atom_7 (FnV.toV v_16) h0u47 fun h0u48 =>
 K0u1 (row_5, atom_7) h0u48
 )
 ) ∧ (
 new [Value.nilFunc] h0u3 fun atom_8 h0u49 =>
 (cells? h0u49 p_1 7 0 = some [Value.int .i64 v_4.1, Value.int .i64 v_4.2.1, Sl.toV v_4.2.2.1, Sl.toV v_4.2.2.2.1, Sl.toV v_4.2.2.2.2.1, Sl.toV v_4.2.2.2.2.2.1, Sl.toV v_4.2.2.2.2.2.2]) ∧
 (cells? h0u49 p_1 7 0 = some [Value.int .i64 v_5.1, Value.int .i64 v_5.2.1, Sl.toV v_5.2.2.1, Sl.toV v_5.2.2.2.1, Sl.toV v_5.2.2.2.2.1, Sl.toV v_5.2.2.2.2.2.1, Sl.toV v_5.2.2.2.2.2.2]) ∧
 (
 cnf_rowed (v_4.1, v_4.2.1, v_4.2.2.1, v_4.2.2.2.1, v_4.2.2.2.2.1, v_4.2.2.2.2.2.1, v_4.2.2.2.2.2.2) h0u49 fun v_17 h0u50 =>
 (cells? h0u50 p_1 7 0 = some [Value.int .i64 v_5.1, Value.int .i64 v_5.2.1, Sl.toV v_5.2.2.1, Sl.toV v_5.2.2.2.1, Sl.toV v_5.2.2.2.2.1, Sl.toV v_5.2.2.2.2.2.1, Sl.toV v_5.2.2.2.2.2.2]) ∧
 (
 cnf_atomic (v_5.1, v_5.2.1, v_5.2.2.1, v_5.2.2.2.1, v_5.2.2.2.2.1, v_5.2.2.2.2.2.1, v_5.2.2.2.2.2.2) h0u50 fun v_18 h0u51 =>
 new [Value.nilFunc] h0u51 fun row_6 h0u52 =>
 Lift.store row_6 (FnV.toV v_17) h0u52 fun h0u53 =>
 Lift.store atom_8 (FnV.toV v_18) h0u53 fun h0u54 =>
 K0u1 (row_6, atom_8) h0u54
 ) ∧ (
 new [Value.nilFunc] h0u50 fun row_7 h0u55 =>
 (cells? h0u55 p_1 7 0 = some [Value.int .i64 v_5.1, Value.int .i64 v_5.2.1, Sl.toV v_5.2.2.1, Sl.toV v_5.2.2.2.1, Sl.toV v_5.2.2.2.2.1, Sl.toV v_5.2.2.2.2.2.1, Sl.toV v_5.2.2.2.2.2.2]) ∧
 cnf_atomic (v_5.1, v_5.2.1, v_5.2.2.1, v_5.2.2.2.1, v_5.2.2.2.2.1, v_5.2.2.2.2.2.1, v_5.2.2.2.2.2.2) h0u55 fun v_19 h0u56 =>
 Lift.store row_7 (FnV.toV v_17) h0u56 fun h0u57 =>
 Lift.store atom_8 (FnV.toV v_19) h0u57 fun h0u58 =>
 K0u1 (row_7, atom_8) h0u58
 )
 ) ∧ (
 new [Value.nilFunc] h0u49 fun row_8 h0u59 =>
 (cells? h0u59 p_1 7 0 = some [Value.int .i64 v_4.1, Value.int .i64 v_4.2.1, Sl.toV v_4.2.2.1, Sl.toV v_4.2.2.2.1, Sl.toV v_4.2.2.2.2.1, Sl.toV v_4.2.2.2.2.2.1, Sl.toV v_4.2.2.2.2.2.2]) ∧
 (cells? h0u59 p_1 7 0 = some [Value.int .i64 v_5.1, Value.int .i64 v_5.2.1, Sl.toV v_5.2.2.1, Sl.toV v_5.2.2.2.1, Sl.toV v_5.2.2.2.2.1, Sl.toV v_5.2.2.2.2.2.1, Sl.toV v_5.2.2.2.2.2.2]) ∧
 cnf_rowed (v_4.1, v_4.2.1, v_4.2.2.1, v_4.2.2.2.1, v_4.2.2.2.2.1, v_4.2.2.2.2.2.1, v_4.2.2.2.2.2.2) h0u59 fun v_20 h0u60 =>
 (cells? h0u60 p_1 7 0 = some [Value.int .i64 v_5.1, Value.int .i64 v_5.2.1, Sl.toV v_5.2.2.1, Sl.toV v_5.2.2.2.1, Sl.toV v_5.2.2.2.2.1, Sl.toV v_5.2.2.2.2.2.1, Sl.toV v_5.2.2.2.2.2.2]) ∧
 cnf_atomic (v_5.1, v_5.2.1, v_5.2.2.1, v_5.2.2.2.1, v_5.2.2.2.2.1, v_5.2.2.2.2.2.1, v_5.2.2.2.2.2.2) h0u60 fun v_21 h0u61 =>
 Lift.store row_8 (FnV.toV v_20) h0u61 fun h0u62 =>
 Lift.store atom_8 (FnV.toV v_21) h0u62 fun h0u63 =>
 K0u1 (row_8, atom_8) h0u63
 )
 )
 ) (fun t0u1 h0u5 =>
 seq (fun (K0u2 : Bool → Heap → Prop) =>
 Lift.load Sl.toV (p_1.add 2) h0u5 fun v_22 =>
 slices_ContainsFunc_api_Poly_api_Poly__cnf_Right_c3 v_22 t0u1.1 h0u5 fun v_23 h0u65 =>
 iteB (!v_23) (
 Lift.load Sl.toV (p_1.add 3) h0u65 fun v_24 =>
 slices_ContainsFunc_api_Atom_api_Atom__cnf_Right_c4 v_24 t0u1.2 h0u65 fun v_25 h0u66 =>
 K0u2 (!v_25) h0u66
 ) (
 K0u2 false h0u65
 )
 ) (fun t0u2 h0u64 =>
 Q t0u2 h0u64
 )
 )
 )
 )
def farkas_size (lit : Int) (h : Heap) (Q : Int → Heap → Prop) : Prop :=
 Q (IntKind.wrap .i64 ((if (IntKind.wrap .i64 (0 - lit)) > lit then (IntKind.wrap .i64 (0 - lit)) else lit) - 1)) h
def farkas_Holds_c1 (a : Int × Int × Int × Bool × Sl × Sl × Bool × Sl × Sl) (c0 : Addr) (h : Heap) (Q : Bool → Heap → Prop) : Prop :=
 mem h fun h0 =>
 seq (fun (K0 : Bool → Heap → Prop) =>
 Lift.load (Value.int .i64) (c0.add 0) h0 fun v =>
 iteB (v != 0) (
 Lift.load (Value.int .i64) (c0.add 0) h0 fun v_1 =>
 farkas_size v_1 h0 fun v_2 h0u2 =>
 K0 (a.1 == v_2) h0u2
 ) (
 K0 false h0
 )
 ) (fun t0 h0u1 =>
 Q t0 h0u1
 )
def slices_IndexFunc_api_Atom_api_Atom__farkas_Holds_c1 (s0 : Sl) (f_c : Addr) (h : Heap) (Q : Int → Heap → Prop) : Prop :=
 loop (fun (s0u1 : Int) h0 (K0 : Int → Heap → Prop) =>
 iteB (decide (s0u1 < ((s0.len : Nat) : Int))) (
 idxS s0 s0u1 9 fun a =>
 loadS C_i64ui64ui64ubool_sl_sl_bool_sl_sl 9 a h0 fun v =>
 farkas_Holds_c1 (v.1, v.2.1, v.2.2.1, v.2.2.2.1, v.2.2.2.2.1, v.2.2.2.2.2.1, v.2.2.2.2.2.2.1, v.2.2.2.2.2.2.2.1, v.2.2.2.2.2.2.2.2) f_c h0 fun v_1 h0u1 =>
 iteB v_1 (
 Q s0u1 h0u1
 ) (
 K0 (IntKind.wrap .i64 (s0u1 + 1)) h0u1
 )
 ) (
 Q (-1) h0
 )
 ) 0 h
def linear_Of (v : Int) (h : Heap) (Q : (Bool × Sl × Sl × Sl) → Heap → Prop) : Prop :=
 mem h fun h0 =>
 ratio_Of 1 h0 fun v_1 h0u1 =>
 new [Value.int .i64 v, Value.bool v_1.1, Sl.toV v_1.2.1, Sl.toV v_1.2.2] h0u1 fun a h0u2 =>
 Q (false, Sl.nil, Sl.nil, (⟨some a, 1, 1⟩ : Sl)) h0u2
def nat_bit (x0 : Sl) (at0 : Int) (h : Heap) (Q : Int → Heap → Prop) : Prop :=
 idxS x0 (IntKind.wrap .i64 (Int.tdiv at0 32)) 1 fun a =>
 Lift.load (Value.int .u32) a h fun v =>
 (0 ≤ (Int.tmod at0 32)) ∧
 Q (IntKind.wrap .u32 (((BitVec.ofInt (IntKind.bits .u32) (Int.fdiv v (2 ^ (min (Int.toNat (Int.tmod at0 32)) (IntKind.bits .u32)))) &&& BitVec.ofInt (IntKind.bits .u32) 1).toNat : Int))) h
def nat_divide (x0 : Sl) (y : Sl) (h : Heap) (Q : (Sl × Sl) → Heap → Prop) : Prop :=
 nat_small x0 h fun v h0 =>
 nat_small y h0 fun v_1 h0u1 =>
 seq (fun (K0 : Bool → Heap → Prop) =>
 iteB v.2 (
 K0 v_1.2 h0u1
 ) (
 K0 false h0u1
 )
 ) (fun t0 h0u2 =>
 iteB t0 (
 (v_1.1 ≠ 0) ∧
 (v_1.1 ≠ 0) ∧
 nat_Of (IntKind.wrap .u64 (Int.tdiv v.1 v_1.1)) h0u2 fun v_2 h0u3 =>
 nat_Of (Int.tmod v.1 v_1.1) h0u3 fun v_3 h0u4 =>
 Q (v_2, v_3) h0u4
 ) (
 nat_trim x0 h0u2 fun v_4 h0u5 =>
 nat_trim y h0u5 fun v_5 h0u6 =>
 Let (((v_4.len : Nat) : Int) : Int) fun t38 =>
 mkS [Value.int .u32 0] 4 t38 t38 h0u6 fun v_6 h0u7 =>
 Let (IntKind.wrap .i64 ((IntKind.wrap .i64 (((v_4.len : Nat) : Int) * 32)) - 1) : Int) fun at0 =>
 loop (fun (s0 : Sl × Int) h0u8 (K0u1 : (Sl × Int) → Heap → Prop) =>
 iteB (decide (s0.2 ≥ 0)) (
 seq (fun (K0u2 : Sl → Heap → Prop) =>
 nat_plus s0.1 s0.1 h0u8 fun v_7 h0u10 =>
 idxS v_7 0 1 fun a =>
 Lift.load (Value.int .u32) a h0u10 fun v_8 =>
 nat_bit v_4 s0.2 h0u10 fun v_9 h0u11 =>
 (cell? h0u11 a = some (Value.int .u32 v_8)) ∧
 idxS v_7 0 1 fun a_1 =>
 Lift.store a_1 (Value.int .u32 (IntKind.wrap .u32 (((BitVec.ofInt (IntKind.bits .u32) v_8 ||| BitVec.ofInt (IntKind.bits .u32) v_9).toNat : Int)))) h0u11 fun h0u12 =>
 nat_trim v_7 h0u12 fun v_10 h0u13 =>
 nat_Cmp v_10 v_5 h0u13 fun v_11 h0u14 =>
 iteB (decide (v_11 ≥ 0)) (
 nat_minus v_10 v_5 h0u14 fun v_12 h0u15 =>
 idxS v_6 (IntKind.wrap .i64 (Int.tdiv s0.2 32)) 1 fun a_2 =>
 Lift.load (Value.int .u32) a_2 h0u15 fun v_13 =>
 (0 ≤ (Int.tmod s0.2 32)) ∧
 idxS v_6 (IntKind.wrap .i64 (Int.tdiv s0.2 32)) 1 fun a_3 =>
 Lift.store a_3 (Value.int .u32 (IntKind.wrap .u32 (((BitVec.ofInt (IntKind.bits .u32) v_13 ||| BitVec.ofInt (IntKind.bits .u32) (IntKind.wrap .u32 (1 * 2 ^ (min (Int.toNat (Int.tmod s0.2 32)) (IntKind.bits .u32))))).toNat : Int)))) h0u15 fun h0u16 =>
 K0u2 v_12 h0u16
 ) (
 K0u2 v_10 h0u14
 )
 ) (fun t0u1 h0u9 =>
 Let (IntKind.wrap .i64 (s0.2 - 1) : Int) fun at0u1 =>
 K0u1 (t0u1, at0u1) h0u9
 )
 ) (
 nat_trim v_6 h0u8 fun v_14 h0u17 =>
 Q (v_14, s0.1) h0u17
 )
 ) (Sl.nil, at0) h0u7
 )
 )
def nat_Bench_Div (b : (Option Addr)) (x0 : Sl) (y : Sl) (h : Heap) (Q : (Sl × Sl) → Heap → Prop) : Prop :=
 nat_trim y h fun v h0 =>
 iteB (((v.len : Nat) : Int) == 0) (
 Q (Sl.nil, Sl.nil) h0
 ) (
 nat_divide x0 y h0 fun v_1 h0u1 =>
 nat_Bench_fit b v_1.1 h0u1 fun v_2 h0u2 =>
 nat_Bench_fit b v_1.2 h0u2 fun v_3 h0u3 =>
 nilChk b fun a =>
 Lift.load Value.bool (a.add 1) h0u3 fun v_4 =>
 iteB v_4 (
 Q (Sl.nil, Sl.nil) h0u3
 ) (
 Q (v_2, v_3) h0u3
 )
 )
def ratio_form (neg : Bool) (num : Sl) (d : Sl) (h : Heap) (Q : (Bool × Sl × Sl) → Heap → Prop) : Prop :=
 mem h fun h0 =>
 ratio_free h0 fun v h0u1 =>
 nat_Bench_Gcd v num d h0u1 fun v_1 h0u2 =>
 nat_Bench_Div v num v_1 h0u2 fun v_2 h0u3 =>
 nat_Bench_Div v d v_1 h0u3 fun v_3 h0u4 =>
 seq (fun (K0 : Sl → Heap → Prop) =>
 ratio_isOne v_3.1 h0u4 fun v_4 h0u6 =>
 iteB v_4 (
 K0 Sl.nil h0u6
 ) (
 K0 v_3.1 h0u6
 )
 ) (fun t0 h0u5 =>
 iteB (((v_2.1.len : Nat) : Int) == 0) (
 Q (false, Sl.nil, Sl.nil) h0u5
 ) (
 Q (neg, v_2.1, t0) h0u5
 )
 )
def nat_Bench_Over (b : (Option Addr)) (h : Heap) (Q : Bool → Heap → Prop) : Prop :=
 nilChk b fun a =>
 Lift.load Value.bool (a.add 1) h fun v =>
 Q v h
def ratio_fit (b : (Option Addr)) (x0 : Bool × Sl × Sl) (h : Heap) (Q : (Bool × Sl × Sl) → Heap → Prop) : Prop :=
 mem h fun h0 =>
 nat_Bench_Add b x0.2.1 Sl.nil h0 fun v h0u1 =>
 nat_Bench_Add b x0.2.2 Sl.nil h0u1 fun v_1 h0u2 =>
 nat_Bench_Over b h0u2 fun v_2 h0u3 =>
 iteB v_2 (
 Q (false, Sl.nil, Sl.nil) h0u3
 ) (
 Q (x0.1, x0.2.1, x0.2.2) h0u3
 )
def ratio_Add (b : (Option Addr)) (x0 : Bool × Sl × Sl) (y : Bool × Sl × Sl) (h : Heap) (Q : (Bool × Sl × Sl) → Heap → Prop) : Prop :=
 mem h fun h0 =>
 ratio_cross (x0.1, x0.2.1, x0.2.2) (y.1, y.2.1, y.2.2) h0 fun v h0u1 =>
 ratio_sum (v.1.1, v.1.2) (v.2.1, v.2.2) h0u1 fun v_1 h0u2 =>
 mem h0u2 fun h0u3 =>
 ratio_free h0u3 fun v_2 h0u4 =>
 ratio_den (x0.1, x0.2.1, x0.2.2) h0u4 fun v_3 h0u5 =>
 ratio_den (y.1, y.2.1, y.2.2) h0u5 fun v_4 h0u6 =>
 nat_Bench_Mul v_2 v_3 v_4 h0u6 fun v_5 h0u7 =>
 ratio_form v_1.1 v_1.2 v_5 h0u7 fun v_6 h0u8 =>
 ratio_fit b (v_6.1, v_6.2.1, v_6.2.2) h0u8 fun v_7 h0u9 =>
 Q (v_7.1, v_7.2.1, v_7.2.2) h0u9
def delta_both__ratio_Add (b : (Option Addr)) (x0 : Bool × Sl × Sl × Bool × Sl × Sl) (y : Bool × Sl × Sl × Bool × Sl × Sl) (h : Heap) (Q : (Bool × Sl × Sl × Bool × Sl × Sl) → Heap → Prop) : Prop :=
 mem h fun h0 =>
 seq (fun (K0 : (Bool × Sl × Sl × Bool × Sl × Sl) → Heap → Prop) =>
 mem h0 fun h0u2 =>
 ratio_Add b (x0.1, x0.2.1, x0.2.2.1) (y.1, y.2.1, y.2.2.1) h0u2 fun v_3 h0u9 =>
 mem h0u9 fun h0u10 =>
 ratio_Add b (x0.2.2.2.1, x0.2.2.2.2.1, x0.2.2.2.2.2) (y.2.2.2.1, y.2.2.2.2.1, y.2.2.2.2.2) h0u10 fun v_4 h0u11 =>
 mem h0u11 fun h0u12 =>
 K0 (v_3.1, v_3.2.1, v_3.2.2, v_4.1, v_4.2.1, v_4.2.2) h0u12
 ) (fun t0 h0u1 =>
 nat_Bench_Over b h0u1 fun v_5 h0u13 =>
 iteB v_5 (
 Q (false, Sl.nil, Sl.nil, false, Sl.nil, Sl.nil) h0u13
 ) (
 Q (t0.1, t0.2.1, t0.2.2.1, t0.2.2.2.1, t0.2.2.2.2.1, t0.2.2.2.2.2) h0u13
 )
 )
def delta_Add (b : (Option Addr)) (x0 : Bool × Sl × Sl × Bool × Sl × Sl) (y : Bool × Sl × Sl × Bool × Sl × Sl) (h : Heap) (Q : (Bool × Sl × Sl × Bool × Sl × Sl) → Heap → Prop) : Prop :=
 mem h fun h0 =>
 delta_both__ratio_Add b (x0.1, x0.2.1, x0.2.2.1, x0.2.2.2.1, x0.2.2.2.2.1, x0.2.2.2.2.2) (y.1, y.2.1, y.2.2.1, y.2.2.2.1, y.2.2.2.2.1, y.2.2.2.2.2) h0 fun v h0u1 =>
 Q (v.1, v.2.1, v.2.2.1, v.2.2.2.1, v.2.2.2.2.1, v.2.2.2.2.2) h0u1
def ratio_Mul (b : (Option Addr)) (x0 : Bool × Sl × Sl) (y : Bool × Sl × Sl) (h : Heap) (Q : (Bool × Sl × Sl) → Heap → Prop) : Prop :=
 mem h fun h0 =>
 ratio_free h0 fun v h0u1 =>
 nat_Bench_Mul v x0.2.1 y.2.1 h0u1 fun v_1 h0u2 =>
 ratio_den (x0.1, x0.2.1, x0.2.2) h0u2 fun v_2 h0u3 =>
 ratio_den (y.1, y.2.1, y.2.2) h0u3 fun v_3 h0u4 =>
 nat_Bench_Mul v v_2 v_3 h0u4 fun v_4 h0u5 =>
 ratio_form (!(x0.1 == y.1)) v_1 v_4 h0u5 fun v_5 h0u6 =>
 ratio_fit b (v_5.1, v_5.2.1, v_5.2.2) h0u6 fun v_6 h0u7 =>
 Q (v_6.1, v_6.2.1, v_6.2.2) h0u7
def linear_Scale_c1 (x0 : Bool × Sl × Sl) (c0 : Addr) (c1 : Addr) (h : Heap) (Q : (Bool × Sl × Sl) → Heap → Prop) : Prop :=
 mem h fun h0 =>
 Lift.load Value.pointer c0 h0 fun v =>
 loadS C_bool_sl_sl 3 c1 h0 fun v_1 =>
 ratio_Mul v (v_1.1, v_1.2.1, v_1.2.2) (x0.1, x0.2.1, x0.2.2) h0 fun v_2 h0u1 =>
 Q (v_2.1, v_2.2.1, v_2.2.2) h0u1
def linear_kept (b : (Option Addr)) (p : Bool × Sl × Sl × Sl) (h : Heap) (Q : (Bool × Sl × Sl × Sl) → Heap → Prop) : Prop :=
 mem h fun h0 =>
 nat_Bench_Over b h0 fun v h0u1 =>
 iteB v (
 Q (false, Sl.nil, Sl.nil, Sl.nil) h0u1
 ) (
 Q (p.1, p.2.1, p.2.2.1, p.2.2.2) h0u1
 )
def linear_Scale (b : (Option Addr)) (k : Bool × Sl × Sl) (p : Bool × Sl × Sl × Sl) (h : Heap) (Q : (Bool × Sl × Sl × Sl) → Heap → Prop) : Prop :=
 new [Value.pointer b] h fun b_1 h0 =>
 new [Value.bool k.1, Sl.toV k.2.1, Sl.toV k.2.2] h0 fun k_1 h0u1 =>
 mem h0u1 fun h0u2 =>
 loadS C_bool_sl_sl 3 k_1 h0u2 fun v =>
 ratio_Sign (v.1, v.2.1, v.2.2) h0u2 fun v_1 h0u3 =>
 iteB (v_1 == 0) (
 Q (false, Sl.nil, Sl.nil, Sl.nil) h0u3
 ) (
 linear_Scale_c1 (p.1, p.2.1, p.2.2.1) b_1 k_1 h0u3 fun v_2 h0u4 =>
 mem h0u4 fun h0u5 =>
 loop (fun (s0 : Int × Bool × Sl × Sl × Sl) h0u6 (K0 : (Int × Bool × Sl × Sl × Sl) → Heap → Prop) =>
 iteB (decide (s0.1 < ((p.2.2.2.len : Nat) : Int))) (
 idxS p.2.2.2 s0.1 4 fun a =>
 loadS C_i64ubool_sl_sl 4 a h0u6 fun v_3 =>
 mem h0u6 fun h0u7 =>
 linear_Scale_c1 (v_3.2.1, v_3.2.2.1, v_3.2.2.2) b_1 k_1 h0u7 fun v_4 h0u8 =>
 new [Value.int .i64 v_3.1, Value.bool v_4.1, Sl.toV v_4.2.1, Sl.toV v_4.2.2] h0u8 fun a_1 h0u9 =>
 appendS 4 64 s0.2.2.2.2 (⟨some a_1, 1, 1⟩ : Sl) h0u9 fun v_6 h0u10 =>
 K0 (IntKind.wrap .i64 (s0.1 + 1), s0.2.1, s0.2.2.1, s0.2.2.2.1, v_6) h0u10
 ) (
 Lift.load Value.pointer b_1 h0u6 fun v_7 =>
 linear_kept v_7 (s0.2.1, s0.2.2.1, s0.2.2.2.1, s0.2.2.2.2) h0u6 fun v_8 h0u11 =>
 Q (v_8.1, v_8.2.1, v_8.2.2.1, v_8.2.2.2) h0u11
 )
 ) (0, v_2.1, v_2.2.1, v_2.2.2, Sl.nil) h0u5
 )
def delta_both__ratio_Mul (b : (Option Addr)) (x0 : Bool × Sl × Sl × Bool × Sl × Sl) (y : Bool × Sl × Sl × Bool × Sl × Sl) (h : Heap) (Q : (Bool × Sl × Sl × Bool × Sl × Sl) → Heap → Prop) : Prop :=
 mem h fun h0 =>
 seq (fun (K0 : (Bool × Sl × Sl × Bool × Sl × Sl) → Heap → Prop) =>
 mem h0 fun h0u2 =>
 ratio_Mul b (x0.1, x0.2.1, x0.2.2.1) (y.1, y.2.1, y.2.2.1) h0u2 fun v_3 h0u9 =>
 mem h0u9 fun h0u10 =>
 ratio_Mul b (x0.2.2.2.1, x0.2.2.2.2.1, x0.2.2.2.2.2) (y.2.2.2.1, y.2.2.2.2.1, y.2.2.2.2.2) h0u10 fun v_4 h0u11 =>
 mem h0u11 fun h0u12 =>
 K0 (v_3.1, v_3.2.1, v_3.2.2, v_4.1, v_4.2.1, v_4.2.2) h0u12
 ) (fun t0 h0u1 =>
 nat_Bench_Over b h0u1 fun v_5 h0u13 =>
 iteB v_5 (
 Q (false, Sl.nil, Sl.nil, false, Sl.nil, Sl.nil) h0u13
 ) (
 Q (t0.1, t0.2.1, t0.2.2.1, t0.2.2.2.1, t0.2.2.2.2.1, t0.2.2.2.2.2) h0u13
 )
 )
def delta_Scale (b : (Option Addr)) (k : Bool × Sl × Sl) (x0 : Bool × Sl × Sl × Bool × Sl × Sl) (h : Heap) (Q : (Bool × Sl × Sl × Bool × Sl × Sl) → Heap → Prop) : Prop :=
 mem h fun h0 =>
 delta_both__ratio_Mul b (k.1, k.2.1, k.2.2, k.1, k.2.1, k.2.2) (x0.1, x0.2.1, x0.2.2.1, x0.2.2.2.1, x0.2.2.2.2.1, x0.2.2.2.2.2) h0 fun v h0u1 =>
 Q (v.1, v.2.1, v.2.2.1, v.2.2.2.1, v.2.2.2.2.1, v.2.2.2.2.2) h0u1
def farkas_bounded (b : (Option Addr)) (p : Int × Int × Sl × Sl × Sl × Sl × Sl) (a : Int × Int × Int × Bool × Sl × Sl × Bool × Sl × Sl) (lit : Int) (h : Heap) (Q : (Bool × Sl × Sl × Sl × Bool × Sl × Sl × Bool × Sl × Sl) → Heap → Prop) : Prop :=
 mem h fun h0 =>
 seq (fun (K0 : (Bool × Sl × Sl × Sl × Bool × Sl × Sl × Bool × Sl × Sl) → Heap → Prop) =>
 mem h0 fun h0u2 =>
 linear_Of a.2.1 h0u2 fun v_1 h0u5 =>
 mem h0u5 fun h0u6 =>
 K0 (v_1.1, v_1.2.1, v_1.2.2.1, v_1.2.2.2, a.2.2.2.1, a.2.2.2.2.1, a.2.2.2.2.2.1, a.2.2.2.2.2.2.1, a.2.2.2.2.2.2.2.1, a.2.2.2.2.2.2.2.2) h0u6
 ) (fun t0 h0u1 =>
 seq (fun (K0u1 : (Bool × Sl × Sl × Sl × Bool × Sl × Sl × Bool × Sl × Sl) → Heap → Prop) =>
 iteB (decide (a.2.2.1 ≥ 0)) (
 idxS p.2.2.1 a.2.2.1 4 fun a_1 =>
 loadS C_bool_sl_sl_sl 4 a_1 h0u1 fun v_2 =>
 K0u1 (v_2.1, v_2.2.1, v_2.2.2.1, v_2.2.2.2, t0.2.2.2.2.1, t0.2.2.2.2.2.1, t0.2.2.2.2.2.2.1, t0.2.2.2.2.2.2.2.1, t0.2.2.2.2.2.2.2.2.1, t0.2.2.2.2.2.2.2.2.2) h0u1
 ) (
 K0u1 (t0.1, t0.2.1, t0.2.2.1, t0.2.2.2.1, t0.2.2.2.2.1, t0.2.2.2.2.2.1, t0.2.2.2.2.2.2.1, t0.2.2.2.2.2.2.2.1, t0.2.2.2.2.2.2.2.2.1, t0.2.2.2.2.2.2.2.2.2) h0u1
 )
 ) (fun t0u1 h0u7 =>
 iteB (decide (lit > 0)) (
 Q (t0u1.1, t0u1.2.1, t0u1.2.2.1, t0u1.2.2.2.1, t0u1.2.2.2.2.1, t0u1.2.2.2.2.2.1, t0u1.2.2.2.2.2.2.1, t0u1.2.2.2.2.2.2.2.1, t0u1.2.2.2.2.2.2.2.2.1, t0u1.2.2.2.2.2.2.2.2.2) h0u7
 ) (
 seq (fun (K0u2 : (Bool × Sl × Sl × Bool × Sl × Sl) → Heap → Prop) =>
 mem h0u7 fun h0u9 =>
 ratio_Of 1 h0u9 fun v_6 h0u16 =>
 mem h0u16 fun h0u17 =>
 delta_Add b (a.2.2.2.1, a.2.2.2.2.1, a.2.2.2.2.2.1, a.2.2.2.2.2.2.1, a.2.2.2.2.2.2.2.1, a.2.2.2.2.2.2.2.2) (false, Sl.nil, Sl.nil, v_6.1, v_6.2.1, v_6.2.2) h0u17 fun v_7 h0u18 =>
 mem h0u18 fun h0u19 =>
 K0u2 (v_7.1, v_7.2.1, v_7.2.2.1, v_7.2.2.2.1, v_7.2.2.2.2.1, v_7.2.2.2.2.2) h0u19
 ) (fun t0u2 h0u8 =>
 ratio_Of (-1) h0u8 fun v_8 h0u20 =>
 linear_Scale b (v_8.1, v_8.2.1, v_8.2.2) (t0u1.1, t0u1.2.1, t0u1.2.2.1, t0u1.2.2.2.1) h0u20 fun v_9 h0u21 =>
 ratio_Of (-1) h0u21 fun v_10 h0u22 =>
 delta_Scale b (v_10.1, v_10.2.1, v_10.2.2) (t0u2.1, t0u2.2.1, t0u2.2.2.1, t0u2.2.2.2.1, t0u2.2.2.2.2.1, t0u2.2.2.2.2.2) h0u22 fun v_11 h0u23 =>
 Q (v_9.1, v_9.2.1, v_9.2.2.1, v_9.2.2.2, v_11.1, v_11.2.1, v_11.2.2.1, v_11.2.2.2.1, v_11.2.2.2.2.1, v_11.2.2.2.2.2) h0u23
 )
 )
 )
 )
def linear_Add (b : (Option Addr)) (p : Bool × Sl × Sl × Sl) (k : Bool × Sl × Sl) (q : Bool × Sl × Sl × Sl) (h : Heap) (Q : (Bool × Sl × Sl × Sl) → Heap → Prop) : Prop :=
 mem h fun h0 =>
 linear_Scale b (k.1, k.2.1, k.2.2) (q.1, q.2.1, q.2.2.1, q.2.2.2) h0 fun v h0u1 =>
 ratio_Add b (p.1, p.2.1, p.2.2.1) (v.1, v.2.1, v.2.2.1) h0u1 fun v_1 h0u2 =>
 mem h0u2 fun h0u3 =>
 loop (fun (s0 : Sl × Sl × Bool × Sl × Sl × Sl) h0u4 (K0 : (Sl × Sl × Bool × Sl × Sl × Sl) → Heap → Prop) =>
 seq (fun (K0u1 : Bool → Heap → Prop) =>
 iteB (decide (((s0.1.len : Nat) : Int) > 0)) (
 K0u1 true h0u4
 ) (
 K0u1 (decide (((s0.2.1.len : Nat) : Int) > 0)) h0u4
 )
 ) (fun t0 h0u5 =>
 iteB t0 (
 mem h0u5 fun h0u6 =>
 seq (fun (K0u2 : (Sl × Sl × Int × Bool × Sl × Sl) → Heap → Prop) =>
 seq (fun (K0u3 : Bool → Heap → Prop) =>
 iteB (((s0.2.1.len : Nat) : Int) == 0) (
 K0u3 true h0u6
 ) (
 iteB (decide (((s0.1.len : Nat) : Int) > 0)) (
 idxS s0.1 0 4 fun a =>
 Lift.load (Value.int .i64) (a.add 0) h0u6 fun v_2 =>
 idxS s0.2.1 0 4 fun a_1 =>
 Lift.load (Value.int .i64) (a_1.add 0) h0u6 fun v_3 =>
 K0u3 (decide (v_2 < v_3)) h0u6
 ) (
 K0u3 false h0u6
 )
 )
 ) (fun t0u2 h0u8 =>
 iteB t0u2 (
 idxS s0.1 0 4 fun a_2 =>
 loadS C_i64ubool_sl_sl 4 a_2 h0u8 fun v_4 =>
 sliceOf s0.1 (some 1) none none 4 fun v_5 =>
 K0u2 (v_5, s0.2.1, v_4.1, v_4.2.1, v_4.2.2.1, v_4.2.2.2) h0u8
 ) (
 seq (fun (K0u4 : Bool → Heap → Prop) =>
 iteB (((s0.1.len : Nat) : Int) == 0) (
 K0u4 true h0u8
 ) (
 idxS s0.1 0 4 fun a_3 =>
 Lift.load (Value.int .i64) (a_3.add 0) h0u8 fun v_6 =>
 idxS s0.2.1 0 4 fun a_4 =>
 Lift.load (Value.int .i64) (a_4.add 0) h0u8 fun v_7 =>
 K0u4 (decide (v_6 > v_7)) h0u8
 )
 ) (fun t0u3 h0u9 =>
 iteB t0u3 (
 idxS s0.2.1 0 4 fun a_5 =>
 loadS C_i64ubool_sl_sl 4 a_5 h0u9 fun v_8 =>
 sliceOf s0.2.1 (some 1) none none 4 fun v_9 =>
 K0u2 (s0.1, v_9, v_8.1, v_8.2.1, v_8.2.2.1, v_8.2.2.2) h0u9
 ) (
 idxS s0.1 0 4 fun a_6 =>
 Lift.load (Value.int .i64) (a_6.add 0) h0u9 fun v_10 =>
 idxS s0.1 0 4 fun a_7 =>
 loadS C_bool_sl_sl 3 (a_7.add 1) h0u9 fun v_11 =>
 idxS s0.2.1 0 4 fun a_8 =>
 loadS C_bool_sl_sl 3 (a_8.add 1) h0u9 fun v_12 =>
 ratio_Add b (v_11.1, v_11.2.1, v_11.2.2) (v_12.1, v_12.2.1, v_12.2.2) h0u9 fun v_13 h0u10 =>
 (cell? h0u10 (a_6.add 0) = some (Value.int .i64 v_10)) ∧
 sliceOf s0.1 (some 1) none none 4 fun v_14 =>
 sliceOf s0.2.1 (some 1) none none 4 fun v_15 =>
 K0u2 (v_14, v_15, v_10, v_13.1, v_13.2.1, v_13.2.2) h0u10
 )
 )
 )
 )
 ) (fun t0u1 h0u7 =>
 ratio_Sign (t0u1.2.2.2.1, t0u1.2.2.2.2.1, t0u1.2.2.2.2.2) h0u7 fun v_16 h0u11 =>
 iteB (v_16 != 0) (
 new [Value.int .i64 t0u1.2.2.1, Value.bool t0u1.2.2.2.1, Sl.toV t0u1.2.2.2.2.1, Sl.toV t0u1.2.2.2.2.2] h0u11 fun a_9 h0u12 =>
 appendS 4 64 s0.2.2.2.2.2 (⟨some a_9, 1, 1⟩ : Sl) h0u12 fun v_18 h0u13 =>
 K0 (t0u1.1, t0u1.2.1, s0.2.2.1, s0.2.2.2.1, s0.2.2.2.2.1, v_18) h0u13
 ) (
 K0 (t0u1.1, t0u1.2.1, s0.2.2.1, s0.2.2.2.1, s0.2.2.2.2.1, s0.2.2.2.2.2) h0u11
 )
 )
 ) (
 linear_kept b (s0.2.2.1, s0.2.2.2.1, s0.2.2.2.2.1, s0.2.2.2.2.2) h0u5 fun v_19 h0u14 =>
 Q (v_19.1, v_19.2.1, v_19.2.2.1, v_19.2.2.2) h0u14
 )
 )
 ) (p.2.2.2, v.2.2.2, v_1.1, v_1.2.1, v_1.2.2, Sl.nil) h0u3
def farkas_claim_add (c : Bool × Sl × Sl × Sl × Bool × Sl × Sl × Bool × Sl × Sl) (b : (Option Addr)) (k : Bool × Sl × Sl) (d : Bool × Sl × Sl × Sl × Bool × Sl × Sl × Bool × Sl × Sl) (h : Heap) (Q : (Bool × Sl × Sl × Sl × Bool × Sl × Sl × Bool × Sl × Sl) → Heap → Prop) : Prop :=
 mem h fun h0 =>
 linear_Add b (c.1, c.2.1, c.2.2.1, c.2.2.2.1) (k.1, k.2.1, k.2.2) (d.1, d.2.1, d.2.2.1, d.2.2.2.1) h0 fun v h0u1 =>
 delta_Scale b (k.1, k.2.1, k.2.2) (d.2.2.2.2.1, d.2.2.2.2.2.1, d.2.2.2.2.2.2.1, d.2.2.2.2.2.2.2.1, d.2.2.2.2.2.2.2.2.1, d.2.2.2.2.2.2.2.2.2) h0u1 fun v_1 h0u2 =>
 delta_Add b (c.2.2.2.2.1, c.2.2.2.2.2.1, c.2.2.2.2.2.2.1, c.2.2.2.2.2.2.2.1, c.2.2.2.2.2.2.2.2.1, c.2.2.2.2.2.2.2.2.2) (v_1.1, v_1.2.1, v_1.2.2.1, v_1.2.2.2.1, v_1.2.2.2.2.1, v_1.2.2.2.2.2) h0u2 fun v_2 h0u3 =>
 Q (v.1, v.2.1, v.2.2.1, v.2.2.2, v_2.1, v_2.2.1, v_2.2.2.1, v_2.2.2.2.1, v_2.2.2.2.2.1, v_2.2.2.2.2.2) h0u3
def delta_Cmp (x0 : Bool × Sl × Sl × Bool × Sl × Sl) (y : Bool × Sl × Sl × Bool × Sl × Sl) (h : Heap) (Q : Int → Heap → Prop) : Prop :=
 mem h fun h0 =>
 ratio_Cmp (x0.1, x0.2.1, x0.2.2.1) (y.1, y.2.1, y.2.2.1) h0 fun v h0u1 =>
 iteB (v != 0) (
 Q v h0u1
 ) (
 ratio_Cmp (x0.2.2.2.1, x0.2.2.2.2.1, x0.2.2.2.2.2) (y.2.2.2.1, y.2.2.2.2.1, y.2.2.2.2.2) h0u1 fun v_1 h0u2 =>
 Q v_1 h0u2
 )
def farkas_Holds (p : Int × Int × Sl × Sl × Sl × Sl × Sl) (list : Sl) (h : Heap) (Q : Bool → Heap → Prop) : Prop :=
 mem h fun h0 =>
 cnf_Right (p.1, p.2.1, p.2.2.1, p.2.2.2.1, p.2.2.2.2.1, p.2.2.2.2.2.1, p.2.2.2.2.2.2) h0 fun v h0u1 =>
 iteB (!v) (
 Q false h0u1
 ) (
 nat_New 1048576 h0u1 fun v_1 h0u2 =>
 mem h0u2 fun h0u3 =>
 loop (fun (s0 : Int × Bool × Sl × Sl × Sl × Bool × Sl × Sl × Bool × Sl × Sl) h0u4 (K0 : (Int × Bool × Sl × Sl × Sl × Bool × Sl × Sl × Bool × Sl × Sl) → Heap → Prop) =>
 iteB (decide (s0.1 < ((list.len : Nat) : Int))) (
 idxS list s0.1 4 fun a =>
 loadS C_i64ubool_sl_sl 4 a h0u4 fun v_2 =>
 new [Value.int .i64 0, Value.bool false, Sl.toV Sl.nil, Sl.toV Sl.nil] h0u4 fun r h0u5 =>
 storeS r [Value.int .i64 v_2.1, Value.bool v_2.2.1, Sl.toV v_2.2.2.1, Sl.toV v_2.2.2.2] h0u5 fun h0u6 =>
 slices_IndexFunc_api_Atom_api_Atom__farkas_Holds_c1 p.2.2.2.1 r h0u6 fun v_3 h0u7 =>
 seq (fun (K0u1 : Bool → Heap → Prop) =>
 iteB (decide (v_3 < 0)) (
 K0u1 true h0u7
 ) (
 loadS C_bool_sl_sl 3 (r.add 1) h0u7 fun v_4 =>
 ratio_Right (v_4.1, v_4.2.1, v_4.2.2) h0u7 fun v_5 h0u9 =>
 iteB (!v_5) (
 K0u1 true h0u9
 ) (
 loadS C_bool_sl_sl 3 (r.add 1) h0u9 fun v_6 =>
 ratio_Sign (v_6.1, v_6.2.1, v_6.2.2) h0u9 fun v_7 h0u10 =>
 K0u1 (decide (v_7 < 0)) h0u10
 )
 )
 ) (fun t0 h0u8 =>
 iteB t0 (
 Q false h0u8
 ) (
 loadS C_bool_sl_sl 3 (r.add 1) h0u8 fun v_8 =>
 idxS p.2.2.2.1 v_3 9 fun a_1 =>
 loadS C_i64ui64ui64ubool_sl_sl_bool_sl_sl 9 a_1 h0u8 fun v_9 =>
 Lift.load (Value.int .i64) (r.add 0) h0u8 fun v_10 =>
 farkas_bounded v_1 (p.1, p.2.1, p.2.2.1, p.2.2.2.1, p.2.2.2.2.1, p.2.2.2.2.2.1, p.2.2.2.2.2.2) (v_9.1, v_9.2.1, v_9.2.2.1, v_9.2.2.2.1, v_9.2.2.2.2.1, v_9.2.2.2.2.2.1, v_9.2.2.2.2.2.2.1, v_9.2.2.2.2.2.2.2.1, v_9.2.2.2.2.2.2.2.2) v_10 h0u8 fun v_11 h0u11 =>
 (cells? h0u11 (r.add 1) 3 0 = some [Value.bool v_8.1, Sl.toV v_8.2.1, Sl.toV v_8.2.2]) ∧
 farkas_claim_add (s0.2.1, s0.2.2.1, s0.2.2.2.1, s0.2.2.2.2.1, s0.2.2.2.2.2.1, s0.2.2.2.2.2.2.1, s0.2.2.2.2.2.2.2.1, s0.2.2.2.2.2.2.2.2.1, s0.2.2.2.2.2.2.2.2.2.1, s0.2.2.2.2.2.2.2.2.2.2) v_1 (v_8.1, v_8.2.1, v_8.2.2) (v_11.1, v_11.2.1, v_11.2.2.1, v_11.2.2.2.1, v_11.2.2.2.2.1, v_11.2.2.2.2.2.1, v_11.2.2.2.2.2.2.1, v_11.2.2.2.2.2.2.2.1, v_11.2.2.2.2.2.2.2.2.1, v_11.2.2.2.2.2.2.2.2.2) h0u11 fun v_12 h0u12 =>
 K0 (IntKind.wrap .i64 (s0.1 + 1), v_12.1, v_12.2.1, v_12.2.2.1, v_12.2.2.2.1, v_12.2.2.2.2.1, v_12.2.2.2.2.2.1, v_12.2.2.2.2.2.2.1, v_12.2.2.2.2.2.2.2.1, v_12.2.2.2.2.2.2.2.2.1, v_12.2.2.2.2.2.2.2.2.2) h0u12
 )
 )
 ) (
 seq (fun (K0u2 : Bool → Heap → Prop) =>
 iteB (((s0.2.2.2.2.1.len : Nat) : Int) == 0) (
 delta_Cmp (s0.2.2.2.2.2.1, s0.2.2.2.2.2.2.1, s0.2.2.2.2.2.2.2.1, s0.2.2.2.2.2.2.2.2.1, s0.2.2.2.2.2.2.2.2.2.1, s0.2.2.2.2.2.2.2.2.2.2) (false, Sl.nil, Sl.nil, false, Sl.nil, Sl.nil) h0u4 fun v_13 h0u14 =>
 K0u2 (decide (v_13 < 0)) h0u14
 ) (
 K0u2 false h0u4
 )
 ) (fun t0u1 h0u13 =>
 Q t0u1 h0u13
 )
 )
 ) (0, false, Sl.nil, Sl.nil, Sl.nil, false, Sl.nil, Sl.nil, false, Sl.nil, Sl.nil) h0u3
 )
def law16uspeaks (h : Heap) (Q : Bool → Heap → Prop) : Prop :=
 ratio_Of 1 h fun v h0 =>
 ratio_Of 2 h0 fun v_1 h0u1 =>
 ratio_Of (-1) h0u1 fun v_2 h0u2 =>
 new [Value.int .i64 0, Value.int .i64 0, Value.int .i64 (-1), Value.bool v.1, Sl.toV v.2.1, Sl.toV v.2.2, Value.bool false, Sl.toV Sl.nil, Sl.toV Sl.nil, Value.int .i64 1, Value.int .i64 0, Value.int .i64 (-1), Value.bool v_1.1, Sl.toV v_1.2.1, Sl.toV v_1.2.2, Value.bool v_2.1, Sl.toV v_2.2.1, Sl.toV v_2.2.2] h0u2 fun a h0u3 =>
 mem h0u3 fun h0u4 =>
 ratio_Of 1 h0u4 fun v_4 h0u5 =>
 mem h0u5 fun h0u6 =>
 seq (fun (K0 : Bool → Heap → Prop) =>
 new [Value.int .i64 1, Value.bool v_4.1, Sl.toV v_4.2.1, Sl.toV v_4.2.2, Value.int .i64 (-2), Value.bool v_4.1, Sl.toV v_4.2.1, Sl.toV v_4.2.2] h0u6 fun a_1 h0u8 =>
 farkas_Holds (2, 1, Sl.nil, (⟨some a, 2, 2⟩ : Sl), Sl.nil, Sl.nil, Sl.nil) (⟨some a_1, 2, 2⟩ : Sl) h0u8 fun v_6 h0u9 =>
 iteB v_6 (
 new [Value.int .i64 1, Value.bool v_4.1, Sl.toV v_4.2.1, Sl.toV v_4.2.2] h0u9 fun a_2 h0u10 =>
 farkas_Holds (2, 1, Sl.nil, (⟨some a, 2, 2⟩ : Sl), Sl.nil, Sl.nil, Sl.nil) (⟨some a_2, 1, 1⟩ : Sl) h0u10 fun v_8 h0u11 =>
 K0 (!v_8) h0u11
 ) (
 K0 false h0u9
 )
 ) (fun t0 h0u7 =>
 Q t0 h0u7
 )
def law02uGreat (l : Sl) (h : Heap) (Q : Bool → Heap → Prop) : Prop :=
 loop (fun (s0 : Int) h0 (K0 : Int → Heap → Prop) =>
 iteB (decide (s0 < ((l.len : Nat) : Int))) (
 idxS l s0 3 fun a =>
 loadS C_bool_sl_sl 3 a h0 fun v =>
 mem h0 fun h0u1 =>
 seq (fun (K0u1 : Bool → Heap → Prop) =>
 iteB (decide (((v.2.1.len : Nat) : Int) > 6)) (
 K0u1 true h0u1
 ) (
 K0u1 (decide (((v.2.2.len : Nat) : Int) > 6)) h0u1
 )
 ) (fun t0 h0u2 =>
 iteB t0 (
 Q true h0u2
 ) (
 K0 (IntKind.wrap .i64 (s0 + 1)) h0u2
 )
 )
 ) (
 Q false h0
 )
 ) 0 h
def ref01uCut (x0 : Sl) (h : Heap) (Q : Sl → Heap → Prop) : Prop :=
 Let (((x0.len : Nat) : Int) : Int) fun n =>
 loop (fun (s0 : Int) h0 (K0 : Int → Heap → Prop) =>
 seq (fun (K0u1 : Bool → Heap → Prop) =>
 iteB (decide (s0 > 0)) (
 idxS x0 (IntKind.wrap .i64 (s0 - 1)) 1 fun a =>
 Lift.load (Value.int .i64) a h0 fun v =>
 K0u1 (v == 0) h0
 ) (
 K0u1 false h0
 )
 ) (fun t0 h0u1 =>
 iteB t0 (
 Let (IntKind.wrap .i64 (s0 - 1) : Int) fun n_1 =>
 K0 n_1 h0u1
 ) (
 sliceOf x0 none (some s0) none 1 fun v_1 =>
 Q v_1 h0u1
 )
 )
 ) n h
def ref01uOf (x0 : Sl) (h : Heap) (Q : Sl → Heap → Prop) : Prop :=
 new [] h fun a h0 =>
 Let ((⟨some a, 0, 0⟩ : Sl) : Sl) fun out =>
 Let (IntKind.wrap .i64 (((x0.len : Nat) : Int) - 1) : Int) fun i =>
 loop (fun (s0 : Sl × Int) h0u1 (K0 : (Sl × Int) → Heap → Prop) =>
 iteB (decide (s0.2 ≥ 0)) (
 idxS x0 s0.2 1 fun a_1 =>
 Lift.load (Value.int .u32) a_1 h0u1 fun v_1 =>
 Let (IntKind.wrap .i64 v_1 : Int) fun carry =>
 loop (fun (s0u1 : Int × Int) h0u2 (K0u1 : (Int × Int) → Heap → Prop) =>
 iteB (decide (s0u1.2 < ((s0.1.len : Nat) : Int))) (
 idxS s0.1 s0u1.2 1 fun a_2 =>
 Lift.load (Value.int .i64) a_2 h0u2 fun v_2 =>
 Let (IntKind.wrap .i64 ((IntKind.wrap .i64 (v_2 * 4294967296)) + s0u1.1) : Int) fun n =>
 idxS s0.1 s0u1.2 1 fun a_3 =>
 Lift.store a_3 (Value.int .i64 (Int.tmod n 10)) h0u2 fun h0u3 =>
 Let (IntKind.wrap .i64 (Int.tdiv n 10) : Int) fun carry_1 =>
 Let (IntKind.wrap .i64 (s0u1.2 + 1) : Int) fun k =>
 K0u1 (carry_1, k) h0u3
 ) (
 loop (fun (s0u2 : Sl × Int) h0u4 (K0u2 : (Sl × Int) → Heap → Prop) =>
 iteB (decide (s0u2.2 > 0)) (
 new [Value.int .i64 (Int.tmod s0u2.2 10)] h0u4 fun a_4 h0u5 =>
 appendS 1 8 s0u2.1 (⟨some a_4, 1, 1⟩ : Sl) h0u5 fun v_4 h0u6 =>
 Let (IntKind.wrap .i64 (Int.tdiv s0u2.2 10) : Int) fun carry_2 =>
 K0u2 (v_4, carry_2) h0u6
 ) (
 Let (IntKind.wrap .i64 (s0.2 - 1) : Int) fun i_1 =>
 K0 (s0u2.1, i_1) h0u4
 )
 ) (s0.1, s0u1.1) h0u2
 )
 ) (carry, 0) h0u1
 ) (
 ref01uCut s0.1 h0u1 fun v_5 h0u7 =>
 Q v_5 h0u7
 )
 ) (out, i) h0
def ref02uOf (x0 : Bool × Sl × Sl) (h : Heap) (Q : (Bool × Sl × Sl) → Heap → Prop) : Prop :=
 mem h fun h0 =>
 seq (fun (K0 : (Bool × Sl × Sl) → Heap → Prop) =>
 mem h0 fun h0u2 =>
 ref01uOf x0.2.1 h0u2 fun v_3 h0u9 =>
 mem h0u9 fun h0u10 =>
 ref01uOf x0.2.2 h0u10 fun v_4 h0u11 =>
 mem h0u11 fun h0u12 =>
 K0 (x0.1, v_3, v_4) h0u12
 ) (fun t0 h0u1 =>
 seq (fun (K0u1 : (Bool × Sl × Sl) → Heap → Prop) =>
 iteB (((t0.2.2.len : Nat) : Int) == 0) (
 new [Value.int .i64 1] h0u1 fun a h0u14 =>
 K0u1 (t0.1, t0.2.1, (⟨some a, 1, 1⟩ : Sl)) h0u14
 ) (
 K0u1 (t0.1, t0.2.1, t0.2.2) h0u1
 )
 ) (fun t0u1 h0u13 =>
 Q (t0u1.1, t0u1.2.1, t0u1.2.2) h0u13
 )
 )
def ref02uInt (n : Int) (h : Heap) (Q : (Bool × Sl × Sl) → Heap → Prop) : Prop :=
 mem h fun h0 =>
 new [] h0 fun a h0u1 =>
 new [Value.int .i64 1] h0u1 fun a_1 h0u2 =>
 mem h0u2 fun h0u3 =>
 seq (fun (K0 : Int → Heap → Prop) =>
 iteB (decide (n < 0)) (
 Let (IntKind.wrap .i64 (0 - n) : Int) fun n_1 =>
 K0 n_1 h0u3
 ) (
 K0 n h0u3
 )
 ) (fun t0 h0u4 =>
 loop (fun (s0 : Int × Bool × Sl × Sl) h0u5 (K0u1 : (Int × Bool × Sl × Sl) → Heap → Prop) =>
 iteB (decide (s0.1 > 0)) (
 new [Value.int .i64 (Int.tmod s0.1 10)] h0u5 fun a_2 h0u6 =>
 appendS 1 8 s0.2.2.1 (⟨some a_2, 1, 1⟩ : Sl) h0u6 fun v_3 h0u7 =>
 Let (IntKind.wrap .i64 (Int.tdiv s0.1 10) : Int) fun n_2 =>
 K0u1 (n_2, s0.2.1, v_3, s0.2.2.2) h0u7
 ) (
 Q (s0.2.1, s0.2.2.1, s0.2.2.2) h0u5
 )
 ) (t0, decide (n < 0), (⟨some a, 0, 0⟩ : Sl), (⟨some a_1, 1, 1⟩ : Sl)) h0u4
 )
def ref01uCmp (x0 : Sl) (y : Sl) (h : Heap) (Q : Int → Heap → Prop) : Prop :=
 iteB (((x0.len : Nat) : Int) != ((y.len : Nat) : Int)) (
 iteB (decide (((x0.len : Nat) : Int) < ((y.len : Nat) : Int))) (
 Q (-1) h
 ) (
 Q 1 h
 )
 ) (
 Let (IntKind.wrap .i64 (((x0.len : Nat) : Int) - 1) : Int) fun i =>
 loop (fun (s0 : Int) h0 (K0 : Int → Heap → Prop) =>
 iteB (decide (s0 ≥ 0)) (
 idxS x0 s0 1 fun a =>
 Lift.load (Value.int .i64) a h0 fun v =>
 idxS y s0 1 fun a_1 =>
 Lift.load (Value.int .i64) a_1 h0 fun v_1 =>
 iteB (decide (v < v_1)) (
 Q (-1) h0
 ) (
 idxS x0 s0 1 fun a_2 =>
 Lift.load (Value.int .i64) a_2 h0 fun v_2 =>
 idxS y s0 1 fun a_3 =>
 Lift.load (Value.int .i64) a_3 h0 fun v_3 =>
 iteB (decide (v_2 > v_3)) (
 Q 1 h0
 ) (
 Let (IntKind.wrap .i64 (s0 - 1) : Int) fun i_1 =>
 K0 i_1 h0
 )
 )
 ) (
 Q 0 h0
 )
 ) i h
 )
def ref01uSub (x0 : Sl) (y : Sl) (h : Heap) (Q : Sl → Heap → Prop) : Prop :=
 ref01uCmp x0 y h fun v h0 =>
 iteB (decide (v < 0)) (
 new [] h0 fun a h0u1 =>
 Q (⟨some a, 0, 0⟩ : Sl) h0u1
 ) (
 new [] h0 fun a_1 h0u2 =>
 Let ((⟨some a_1, 0, 0⟩ : Sl) : Sl) fun out =>
 loop (fun (s0 : Sl × Int × Int) h0u3 (K0 : (Sl × Int × Int) → Heap → Prop) =>
 iteB (decide (s0.2.2 < ((x0.len : Nat) : Int))) (
 idxS x0 s0.2.2 1 fun a_2 =>
 Lift.load (Value.int .i64) a_2 h0u3 fun v_3 =>
 Let (IntKind.wrap .i64 (v_3 - s0.2.1) : Int) fun n =>
 seq (fun (K0u1 : Int → Heap → Prop) =>
 iteB (decide (s0.2.2 < ((y.len : Nat) : Int))) (
 idxS y s0.2.2 1 fun a_3 =>
 Lift.load (Value.int .i64) a_3 h0u3 fun v_4 =>
 Let (IntKind.wrap .i64 (n - v_4) : Int) fun n_1 =>
 K0u1 n_1 h0u3
 ) (
 K0u1 n h0u3
 )
 ) (fun t0 h0u4 =>
 seq (fun (K0u2 : (Int × Int) → Heap → Prop) =>
 iteB (decide (t0 < 0)) (
 Let (IntKind.wrap .i64 (t0 + 10) : Int) fun n_2 =>
 K0u2 (1, n_2) h0u4
 ) (
 K0u2 (0, t0) h0u4
 )
 ) (fun t0u1 h0u5 =>
 new [Value.int .i64 t0u1.2] h0u5 fun a_4 h0u6 =>
 appendS 1 8 s0.1 (⟨some a_4, 1, 1⟩ : Sl) h0u6 fun v_6 h0u7 =>
 Let (IntKind.wrap .i64 (s0.2.2 + 1) : Int) fun i =>
 K0 (v_6, t0u1.1, i) h0u7
 )
 )
 ) (
 ref01uCut s0.1 h0u3 fun v_7 h0u8 =>
 Q v_7 h0u8
 )
 ) (out, 0, 0) h0u2
 )
def ref01uDiv (x0 : Sl) (y : Sl) (h : Heap) (Q : (Sl × Sl) → Heap → Prop) : Prop :=
 iteB (((y.len : Nat) : Int) == 0) (
 new [] h fun a h0 =>
 new [] h0 fun a_1 h0u1 =>
 Q ((⟨some a, 0, 0⟩ : Sl), (⟨some a_1, 0, 0⟩ : Sl)) h0u1
 ) (
 Let (((x0.len : Nat) : Int) : Int) fun t15 =>
 mkS [Value.int .i64 0] 8 t15 t15 h fun v_2 h0u2 =>
 new [] h0u2 fun a_2 h0u3 =>
 Let ((⟨some a_2, 0, 0⟩ : Sl) : Sl) fun r =>
 Let (IntKind.wrap .i64 (((x0.len : Nat) : Int) - 1) : Int) fun i =>
 loop (fun (s0 : Sl × Int) h0u4 (K0 : (Sl × Int) → Heap → Prop) =>
 iteB (decide (s0.2 ≥ 0)) (
 idxS x0 s0.2 1 fun a_3 =>
 Lift.load (Value.int .i64) a_3 h0u4 fun v_4 =>
 new [Value.int .i64 v_4] h0u4 fun a_4 h0u5 =>
 appendS 1 8 (⟨some a_4, 1, 1⟩ : Sl) s0.1 h0u5 fun v_6 h0u6 =>
 ref01uCut v_6 h0u6 fun v_7 h0u7 =>
 loop (fun (s0u1 : Sl) h0u8 (K0u1 : Sl → Heap → Prop) =>
 ref01uCmp s0u1 y h0u8 fun v_8 h0u9 =>
 iteB (decide (v_8 ≥ 0)) (
 ref01uSub s0u1 y h0u9 fun v_9 h0u10 =>
 idxS v_2 s0.2 1 fun a_5 =>
 Lift.load (Value.int .i64) a_5 h0u10 fun v_10 =>
 idxS v_2 s0.2 1 fun a_6 =>
 Lift.store a_6 (Value.int .i64 (IntKind.wrap .i64 (v_10 + 1))) h0u10 fun h0u11 =>
 K0u1 v_9 h0u11
 ) (
 Let (IntKind.wrap .i64 (s0.2 - 1) : Int) fun i_1 =>
 K0 (s0u1, i_1) h0u9
 )
 ) v_7 h0u7
 ) (
 ref01uCut v_2 h0u4 fun v_11 h0u12 =>
 Q (v_11, s0.1) h0u12
 )
 ) (r, i) h0u3
 )
def ref01uGcd (x0 : Sl) (y : Sl) (h : Heap) (Q : Sl → Heap → Prop) : Prop :=
 loop (fun (s0 : Sl × Sl) h0 (K0 : (Sl × Sl) → Heap → Prop) =>
 iteB (decide (((s0.2.len : Nat) : Int) > 0)) (
 ref01uDiv s0.1 s0.2 h0 fun v h0u1 =>
 K0 (s0.2, v.2) h0u1
 ) (
 Q s0.1 h0
 )
 ) (x0, y) h
def ref02uLow (r : Bool × Sl × Sl) (h : Heap) (Q : (Bool × Sl × Sl) → Heap → Prop) : Prop :=
 mem h fun h0 =>
 iteB (((r.2.1.len : Nat) : Int) == 0) (
 ref02uInt 0 h0 fun v h0u1 =>
 Q (v.1, v.2.1, v.2.2) h0u1
 ) (
 ref01uGcd r.2.1 r.2.2 h0 fun v_1 h0u2 =>
 ref01uDiv r.2.1 v_1 h0u2 fun v_2 h0u3 =>
 ref01uDiv r.2.2 v_1 h0u3 fun v_3 h0u4 =>
 Q (r.1, v_2.1, v_3.1) h0u4
 )
def ref01uLimbs (x0 : Sl) (h : Heap) (Q : Sl → Heap → Prop) : Prop :=
 new [] h fun a h0 =>
 Let ((⟨some a, 0, 0⟩ : Sl) : Sl) fun out =>
 Let (IntKind.wrap .i64 (((x0.len : Nat) : Int) - 1) : Int) fun i =>
 loop (fun (s0 : Sl × Int) h0u1 (K0 : (Sl × Int) → Heap → Prop) =>
 iteB (decide (s0.2 ≥ 0)) (
 seq (fun (K0u1 : Sl → Heap → Prop) =>
 idxS x0 s0.2 1 fun a_1 =>
 Lift.load (Value.int .i64) a_1 h0u1 fun v_1 =>
 Let (IntKind.wrap .u64 v_1 : Int) fun carry =>
 loop (fun (s0u1 : Int × Int) h0u3 (K0u2 : (Int × Int) → Heap → Prop) =>
 iteB (decide (s0u1.2 < ((s0.1.len : Nat) : Int))) (
 idxS s0.1 s0u1.2 1 fun a_2 =>
 Lift.load (Value.int .u32) a_2 h0u3 fun v_2 =>
 Let (IntKind.wrap .u64 ((IntKind.wrap .u64 ((IntKind.wrap .u64 v_2) * 10)) + s0u1.1) : Int) fun n =>
 idxS s0.1 s0u1.2 1 fun a_3 =>
 Lift.store a_3 (Value.int .u32 (IntKind.wrap .u32 (Int.tmod n 4294967296))) h0u3 fun h0u4 =>
 Let (IntKind.wrap .u64 (Int.tdiv n 4294967296) : Int) fun carry_1 =>
 Let (IntKind.wrap .i64 (s0u1.2 + 1) : Int) fun k =>
 K0u2 (carry_1, k) h0u4
 ) (
 iteB (decide (s0u1.1 > 0)) (
 new [Value.int .u32 (IntKind.wrap .u32 s0u1.1)] h0u3 fun a_4 h0u5 =>
 appendS 1 4 s0.1 (⟨some a_4, 1, 1⟩ : Sl) h0u5 fun v_4 h0u6 =>
 K0u1 v_4 h0u6
 ) (
 K0u1 s0.1 h0u3
 )
 )
 ) (carry, 0) h0u1
 ) (fun t0 h0u2 =>
 Let (IntKind.wrap .i64 (s0.2 - 1) : Int) fun i_1 =>
 K0 (t0, i_1) h0u2
 )
 ) (
 Q s0.1 h0u1
 )
 ) (out, i) h0
def ref02uForm (r : Bool × Sl × Sl) (h : Heap) (Q : (Bool × Sl × Sl) → Heap → Prop) : Prop :=
 mem h fun h0 =>
 ref02uLow (r.1, r.2.1, r.2.2) h0 fun v h0u1 =>
 seq (fun (K0 : (Bool × Sl × Sl) → Heap → Prop) =>
 mem h0u1 fun h0u3 =>
 ref01uLimbs v.2.1 h0u3 fun v_2 h0u6 =>
 mem h0u6 fun h0u7 =>
 K0 (v.1, v_2, Sl.nil) h0u7
 ) (fun t0 h0u2 =>
 seq (fun (K0u1 : (Bool × Sl × Sl) → Heap → Prop) =>
 seq (fun (K0u2 : Bool → Heap → Prop) =>
 iteB (((v.2.2.len : Nat) : Int) != 1) (
 K0u2 true h0u2
 ) (
 idxS v.2.2 0 1 fun a =>
 Lift.load (Value.int .i64) a h0u2 fun v_3 =>
 K0u2 (v_3 != 1) h0u2
 )
 ) (fun t0u2 h0u9 =>
 iteB t0u2 (
 ref01uLimbs v.2.2 h0u9 fun v_4 h0u10 =>
 K0u1 (t0.1, t0.2.1, v_4) h0u10
 ) (
 K0u1 (t0.1, t0.2.1, t0.2.2) h0u9
 )
 )
 ) (fun t0u1 h0u8 =>
 Q (t0u1.1, t0u1.2.1, t0u1.2.2) h0u8
 )
 )
def ref01uSame (a : Sl) (b : Sl) (h : Heap) (Q : Bool → Heap → Prop) : Prop :=
 iteB (((a.len : Nat) : Int) != ((b.len : Nat) : Int)) (
 Q false h
 ) (
 loop (fun (s0 : Int) h0 (K0 : Int → Heap → Prop) =>
 iteB (decide (s0 < ((a.len : Nat) : Int))) (
 idxS a s0 1 fun a_1 =>
 Lift.load (Value.int .u32) a_1 h0 fun v =>
 idxS b s0 1 fun a_2 =>
 Lift.load (Value.int .u32) a_2 h0 fun v_1 =>
 iteB (v != v_1) (
 Q false h0
 ) (
 Let (IntKind.wrap .i64 (s0 + 1) : Int) fun i =>
 K0 i h0
 )
 ) (
 Q true h0
 )
 ) 0 h
 )
def ref02uSame (x0 : Bool × Sl × Sl) (y : Bool × Sl × Sl) (h : Heap) (Q : Bool → Heap → Prop) : Prop :=
 mem h fun h0 =>
 seq (fun (K0 : Bool → Heap → Prop) =>
 iteB (x0.1 == y.1) (
 ref01uSame x0.2.1 y.2.1 h0 fun v h0u2 =>
 iteB v (
 ref01uSame x0.2.2 y.2.2 h0u2 fun v_1 h0u3 =>
 K0 v_1 h0u3
 ) (
 K0 false h0u2
 )
 ) (
 K0 false h0
 )
 ) (fun t0 h0u1 =>
 Q t0 h0u1
 )
def ref02uRight (x0 : Bool × Sl × Sl) (h : Heap) (Q : Bool → Heap → Prop) : Prop :=
 mem h fun h0 =>
 seq (fun (K0 : Bool → Heap → Prop) =>
 iteB (decide (((x0.2.1.len : Nat) : Int) > 0)) (
 idxS x0.2.1 (IntKind.wrap .i64 (((x0.2.1.len : Nat) : Int) - 1)) 1 fun a =>
 Lift.load (Value.int .u32) a h0 fun v =>
 iteB (v == 0) (
 K0 true h0
 ) (
 iteB (decide (((x0.2.2.len : Nat) : Int) > 0)) (
 idxS x0.2.2 (IntKind.wrap .i64 (((x0.2.2.len : Nat) : Int) - 1)) 1 fun a_1 =>
 Lift.load (Value.int .u32) a_1 h0 fun v_1 =>
 iteB (v_1 == 0) (
 K0 true h0
 ) (
 iteB (((x0.2.1.len : Nat) : Int) == 0) (
 K0 x0.1 h0
 ) (
 K0 false h0
 )
 )
 ) (
 iteB (((x0.2.1.len : Nat) : Int) == 0) (
 K0 x0.1 h0
 ) (
 K0 false h0
 )
 )
 )
 ) (
 iteB (decide (((x0.2.2.len : Nat) : Int) > 0)) (
 idxS x0.2.2 (IntKind.wrap .i64 (((x0.2.2.len : Nat) : Int) - 1)) 1 fun a_2 =>
 Lift.load (Value.int .u32) a_2 h0 fun v_2 =>
 iteB (v_2 == 0) (
 K0 true h0
 ) (
 iteB (((x0.2.1.len : Nat) : Int) == 0) (
 K0 x0.1 h0
 ) (
 K0 false h0
 )
 )
 ) (
 iteB (((x0.2.1.len : Nat) : Int) == 0) (
 K0 x0.1 h0
 ) (
 K0 false h0
 )
 )
 )
 ) (fun t0 h0u1 =>
 iteB t0 (
 Q false h0u1
 ) (
 ref02uOf (x0.1, x0.2.1, x0.2.2) h0u1 fun v_3 h0u2 =>
 ref02uForm (v_3.1, v_3.2.1, v_3.2.2) h0u2 fun v_4 h0u3 =>
 ref02uSame (x0.1, x0.2.1, x0.2.2) (v_4.1, v_4.2.1, v_4.2.2) h0u3 fun v_5 h0u4 =>
 Q v_5 h0u4
 )
 )
def ref12uRight (p : Bool × Sl × Sl × Sl) (h : Heap) (Q : Bool → Heap → Prop) : Prop :=
 mem h fun h0 =>
 ref02uRight (p.1, p.2.1, p.2.2.1) h0 fun v h0u1 =>
 iteB (!v) (
 Q false h0u1
 ) (
 loop (fun (s0 : Int) h0u2 (K0 : Int → Heap → Prop) =>
 iteB (decide (s0 < ((p.2.2.2.len : Nat) : Int))) (
 idxS p.2.2.2 s0 4 fun a =>
 loadS C_i64ubool_sl_sl 4 a h0u2 fun v_1 =>
 mem h0u2 fun h0u3 =>
 seq (fun (K0u1 : Bool → Heap → Prop) =>
 iteB (decide (v_1.1 < 0)) (
 K0u1 true h0u3
 ) (
 iteB (decide (s0 > 0)) (
 idxS p.2.2.2 (IntKind.wrap .i64 (s0 - 1)) 4 fun a_1 =>
 Lift.load (Value.int .i64) (a_1.add 0) h0u3 fun v_2 =>
 iteB (decide (v_1.1 ≤ v_2)) (
 K0u1 true h0u3
 ) (
 ref02uRight (v_1.2.1, v_1.2.2.1, v_1.2.2.2) h0u3 fun v_3 h0u5 =>
 iteB (!v_3) (
 K0u1 true h0u5
 ) (
 K0u1 (((v_1.2.2.1.len : Nat) : Int) == 0) h0u5
 )
 )
 ) (
 ref02uRight (v_1.2.1, v_1.2.2.1, v_1.2.2.2) h0u3 fun v_4 h0u6 =>
 iteB (!v_4) (
 K0u1 true h0u6
 ) (
 K0u1 (((v_1.2.2.1.len : Nat) : Int) == 0) h0u6
 )
 )
 )
 ) (fun t0 h0u4 =>
 iteB t0 (
 Q false h0u4
 ) (
 Let (IntKind.wrap .i64 (s0 + 1) : Int) fun i =>
 K0 i h0u4
 )
 )
 ) (
 Q true h0u2
 )
 ) 0 h0u1
 )
def law12uOdd (l : Sl) (h : Heap) (Q : Bool → Heap → Prop) : Prop :=
 loop (fun (s0 : Int) h0 (K0 : Int → Heap → Prop) =>
 iteB (decide (s0 < ((l.len : Nat) : Int))) (
 idxS l s0 4 fun a =>
 loadS C_bool_sl_sl_sl 4 a h0 fun v =>
 mem h0 fun h0u1 =>
 seq (fun (K0u1 : Bool → Heap → Prop) =>
 iteB (decide (((v.2.2.2.len : Nat) : Int) > 12)) (
 K0u1 true h0u1
 ) (
 new [Value.bool v.1, Sl.toV v.2.1, Sl.toV v.2.2.1] h0u1 fun a_1 h0u3 =>
 law02uGreat (⟨some a_1, 1, 1⟩ : Sl) h0u3 fun v_2 h0u4 =>
 iteB v_2 (
 K0u1 true h0u4
 ) (
 ref12uRight (v.1, v.2.1, v.2.2.1, v.2.2.2) h0u4 fun v_3 h0u5 =>
 K0u1 (!v_3) h0u5
 )
 )
 ) (fun t0 h0u2 =>
 iteB t0 (
 Q true h0u2
 ) (
 loop (fun (s0u1 : Int) h0u6 (K0u2 : Int → Heap → Prop) =>
 iteB (decide (s0u1 < ((v.2.2.2.len : Nat) : Int))) (
 idxS v.2.2.2 s0u1 4 fun a_2 =>
 loadS C_i64ubool_sl_sl 4 a_2 h0u6 fun v_4 =>
 mem h0u6 fun h0u7 =>
 new [Value.bool v_4.2.1, Sl.toV v_4.2.2.1, Sl.toV v_4.2.2.2] h0u7 fun a_3 h0u8 =>
 law02uGreat (⟨some a_3, 1, 1⟩ : Sl) h0u8 fun v_6 h0u9 =>
 iteB v_6 (
 Q true h0u9
 ) (
 K0u2 (IntKind.wrap .i64 (s0u1 + 1)) h0u9
 )
 ) (
 K0 (IntKind.wrap .i64 (s0 + 1)) h0u6
 )
 ) 0 h0u2
 )
 )
 ) (
 Q false h0
 )
 ) 0 h
def ref03uRight (x0 : Bool × Sl × Sl × Bool × Sl × Sl) (h : Heap) (Q : Bool → Heap → Prop) : Prop :=
 mem h fun h0 =>
 seq (fun (K0 : Bool → Heap → Prop) =>
 ref02uRight (x0.1, x0.2.1, x0.2.2.1) h0 fun v h0u2 =>
 iteB v (
 ref02uRight (x0.2.2.2.1, x0.2.2.2.2.1, x0.2.2.2.2.2) h0u2 fun v_1 h0u3 =>
 K0 v_1 h0u3
 ) (
 K0 false h0u2
 )
 ) (fun t0 h0u1 =>
 Q t0 h0u1
 )
def law03uOdd (l : Sl) (h : Heap) (Q : Bool → Heap → Prop) : Prop :=
 loop (fun (s0 : Int) h0 (K0 : Int → Heap → Prop) =>
 iteB (decide (s0 < ((l.len : Nat) : Int))) (
 idxS l s0 6 fun a =>
 loadS C_bool_sl_sl_bool_sl_sl 6 a h0 fun v =>
 mem h0 fun h0u1 =>
 seq (fun (K0u1 : Bool → Heap → Prop) =>
 new [Value.bool v.1, Sl.toV v.2.1, Sl.toV v.2.2.1, Value.bool v.2.2.2.1, Sl.toV v.2.2.2.2.1, Sl.toV v.2.2.2.2.2] h0u1 fun a_1 h0u3 =>
 law02uGreat (⟨some a_1, 2, 2⟩ : Sl) h0u3 fun v_2 h0u4 =>
 iteB v_2 (
 K0u1 true h0u4
 ) (
 ref03uRight (v.1, v.2.1, v.2.2.1, v.2.2.2.1, v.2.2.2.2.1, v.2.2.2.2.2) h0u4 fun v_3 h0u5 =>
 K0u1 (!v_3) h0u5
 )
 ) (fun t0 h0u2 =>
 iteB t0 (
 Q true h0u2
 ) (
 K0 (IntKind.wrap .i64 (s0 + 1)) h0u2
 )
 )
 ) (
 Q false h0
 )
 ) 0 h
def law16uGreat (p : Int × Int × Sl × Sl × Sl × Sl × Sl) (list : Sl) (h : Heap) (Q : Bool → Heap → Prop) : Prop :=
 mem h fun h0 =>
 seq (fun (K0 : Bool → Heap → Prop) =>
 iteB (decide (p.2.1 > 1048576)) (
 K0 true h0
 ) (
 iteB (decide (((p.2.2.1.len : Nat) : Int) > 10)) (
 K0 true h0
 ) (
 iteB (decide (((p.2.2.2.1.len : Nat) : Int) > 30)) (
 K0 true h0
 ) (
 iteB (decide (((p.2.2.2.2.1.len : Nat) : Int) > 60)) (
 K0 true h0
 ) (
 K0 (decide (((list.len : Nat) : Int) > 30)) h0
 )
 )
 )
 )
 ) (fun t0 h0u1 =>
 iteB t0 (
 Q true h0u1
 ) (
 loop (fun (s0 : Int) h0u2 (K0u1 : Int → Heap → Prop) =>
 iteB (decide (s0 < ((p.2.2.1.len : Nat) : Int))) (
 idxS p.2.2.1 s0 4 fun a =>
 loadS C_bool_sl_sl_sl 4 a h0u2 fun v =>
 mem h0u2 fun h0u3 =>
 seq (fun (K0u2 : Bool → Heap → Prop) =>
 iteB (decide (((v.2.2.2.len : Nat) : Int) > 12)) (
 K0u2 true h0u3
 ) (
 new [Value.bool v.1, Sl.toV v.2.1, Sl.toV v.2.2.1, Sl.toV v.2.2.2] h0u3 fun a_1 h0u5 =>
 law12uOdd (⟨some a_1, 1, 1⟩ : Sl) h0u5 fun v_2 h0u6 =>
 K0u2 v_2 h0u6
 )
 ) (fun t0u1 h0u4 =>
 iteB t0u1 (
 Q true h0u4
 ) (
 K0u1 (IntKind.wrap .i64 (s0 + 1)) h0u4
 )
 )
 ) (
 loop (fun (s0u1 : Int) h0u7 (K0u3 : Int → Heap → Prop) =>
 iteB (decide (s0u1 < ((p.2.2.2.1.len : Nat) : Int))) (
 idxS p.2.2.2.1 s0u1 9 fun a_2 =>
 loadS C_i64ui64ui64ubool_sl_sl_bool_sl_sl 9 a_2 h0u7 fun v_3 =>
 mem h0u7 fun h0u8 =>
 new [Value.bool v_3.2.2.2.1, Sl.toV v_3.2.2.2.2.1, Sl.toV v_3.2.2.2.2.2.1, Value.bool v_3.2.2.2.2.2.2.1, Sl.toV v_3.2.2.2.2.2.2.2.1, Sl.toV v_3.2.2.2.2.2.2.2.2] h0u8 fun a_3 h0u9 =>
 law03uOdd (⟨some a_3, 1, 1⟩ : Sl) h0u9 fun v_5 h0u10 =>
 iteB v_5 (
 Q true h0u10
 ) (
 K0u3 (IntKind.wrap .i64 (s0u1 + 1)) h0u10
 )
 ) (
 loop (fun (s0u2 : Int) h0u11 (K0u4 : Int → Heap → Prop) =>
 iteB (decide (s0u2 < ((p.2.2.2.2.1.len : Nat) : Int))) (
 idxS p.2.2.2.2.1 s0u2 1 fun a_4 =>
 Lift.load Sl.toV a_4 h0u11 fun v_6 =>
 iteB (decide (((v_6.len : Nat) : Int) > 30)) (
 Q true h0u11
 ) (
 K0u4 (IntKind.wrap .i64 (s0u2 + 1)) h0u11
 )
 ) (
 loop (fun (s0u3 : Int) h0u12 (K0u5 : Int → Heap → Prop) =>
 iteB (decide (s0u3 < ((list.len : Nat) : Int))) (
 idxS list s0u3 4 fun a_5 =>
 loadS C_i64ubool_sl_sl 4 a_5 h0u12 fun v_7 =>
 mem h0u12 fun h0u13 =>
 new [Value.bool v_7.2.1, Sl.toV v_7.2.2.1, Sl.toV v_7.2.2.2] h0u13 fun a_6 h0u14 =>
 law02uGreat (⟨some a_6, 1, 1⟩ : Sl) h0u14 fun v_9 h0u15 =>
 iteB v_9 (
 Q true h0u15
 ) (
 K0u5 (IntKind.wrap .i64 (s0u3 + 1)) h0u15
 )
 ) (
 Q false h0u12
 )
 ) 0 h0u11
 )
 ) 0 h0u7
 )
 ) 0 h0u2
 )
 ) 0 h0u1
 )
 )
def ref02uNeg (x0 : Bool × Sl × Sl) (h : Heap) (Q : (Bool × Sl × Sl) → Heap → Prop) : Prop :=
 mem h fun h0 =>
 seq (fun (K0 : (Bool × Sl × Sl) → Heap → Prop) =>
 iteB (!x0.1) (
 K0 (decide (((x0.2.1.len : Nat) : Int) > 0), x0.2.1, x0.2.2) h0
 ) (
 K0 (false, x0.2.1, x0.2.2) h0
 )
 ) (fun t0 h0u1 =>
 Q (t0.1, t0.2.1, t0.2.2) h0u1
 )
def ref01uMul (x0 : Sl) (y : Sl) (h : Heap) (Q : Sl → Heap → Prop) : Prop :=
 Let (IntKind.wrap .i64 ((IntKind.wrap .i64 (((x0.len : Nat) : Int) + ((y.len : Nat) : Int))) + 1) : Int) fun t15 =>
 mkS [Value.int .i64 0] 8 t15 t15 h fun v h0 =>
 loop (fun (s0 : Int) h0u1 (K0 : Int → Heap → Prop) =>
 iteB (decide (s0 < ((x0.len : Nat) : Int))) (
 loop (fun (s0u1 : Int × Int) h0u2 (K0u1 : (Int × Int) → Heap → Prop) =>
 seq (fun (K0u2 : Bool → Heap → Prop) =>
 iteB (decide (s0u1.2 < ((y.len : Nat) : Int))) (
 K0u2 true h0u2
 ) (
 K0u2 (decide (s0u1.1 > 0)) h0u2
 )
 ) (fun t0 h0u3 =>
 iteB t0 (
 idxS v (IntKind.wrap .i64 (s0 + s0u1.2)) 1 fun a =>
 Lift.load (Value.int .i64) a h0u3 fun v_1 =>
 Let (IntKind.wrap .i64 (v_1 + s0u1.1) : Int) fun n =>
 seq (fun (K0u3 : Int → Heap → Prop) =>
 iteB (decide (s0u1.2 < ((y.len : Nat) : Int))) (
 idxS x0 s0 1 fun a_1 =>
 Lift.load (Value.int .i64) a_1 h0u3 fun v_2 =>
 idxS y s0u1.2 1 fun a_2 =>
 Lift.load (Value.int .i64) a_2 h0u3 fun v_3 =>
 Let (IntKind.wrap .i64 (n + (IntKind.wrap .i64 (v_2 * v_3))) : Int) fun n_1 =>
 K0u3 n_1 h0u3
 ) (
 K0u3 n h0u3
 )
 ) (fun t0u1 h0u4 =>
 idxS v (IntKind.wrap .i64 (s0 + s0u1.2)) 1 fun a_3 =>
 Lift.store a_3 (Value.int .i64 (Int.tmod t0u1 10)) h0u4 fun h0u5 =>
 Let (IntKind.wrap .i64 (Int.tdiv t0u1 10) : Int) fun carry =>
 Let (IntKind.wrap .i64 (s0u1.2 + 1) : Int) fun k =>
 K0u1 (carry, k) h0u5
 )
 ) (
 Let (IntKind.wrap .i64 (s0 + 1) : Int) fun i =>
 K0 i h0u3
 )
 )
 ) (0, 0) h0u1
 ) (
 ref01uCut v h0u1 fun v_4 h0u6 =>
 Q v_4 h0u6
 )
 ) 0 h0
def ref01uAdd (x0 : Sl) (y : Sl) (h : Heap) (Q : Sl → Heap → Prop) : Prop :=
 new [] h fun a h0 =>
 Let ((⟨some a, 0, 0⟩ : Sl) : Sl) fun out =>
 loop (fun (s0 : Sl × Int × Int) h0u1 (K0 : (Sl × Int × Int) → Heap → Prop) =>
 seq (fun (K0u1 : Bool → Heap → Prop) =>
 iteB (decide (s0.2.2 < ((x0.len : Nat) : Int))) (
 K0u1 true h0u1
 ) (
 iteB (decide (s0.2.2 < ((y.len : Nat) : Int))) (
 K0u1 true h0u1
 ) (
 K0u1 (decide (s0.2.1 > 0)) h0u1
 )
 )
 ) (fun t0 h0u2 =>
 iteB t0 (
 seq (fun (K0u2 : Int → Heap → Prop) =>
 iteB (decide (s0.2.2 < ((x0.len : Nat) : Int))) (
 idxS x0 s0.2.2 1 fun a_1 =>
 Lift.load (Value.int .i64) a_1 h0u2 fun v_1 =>
 Let (IntKind.wrap .i64 (s0.2.1 + v_1) : Int) fun n =>
 K0u2 n h0u2
 ) (
 K0u2 s0.2.1 h0u2
 )
 ) (fun t0u1 h0u3 =>
 seq (fun (K0u3 : Int → Heap → Prop) =>
 iteB (decide (s0.2.2 < ((y.len : Nat) : Int))) (
 idxS y s0.2.2 1 fun a_2 =>
 Lift.load (Value.int .i64) a_2 h0u3 fun v_2 =>
 Let (IntKind.wrap .i64 (t0u1 + v_2) : Int) fun n_1 =>
 K0u3 n_1 h0u3
 ) (
 K0u3 t0u1 h0u3
 )
 ) (fun t0u2 h0u4 =>
 new [Value.int .i64 (Int.tmod t0u2 10)] h0u4 fun a_3 h0u5 =>
 appendS 1 8 s0.1 (⟨some a_3, 1, 1⟩ : Sl) h0u5 fun v_4 h0u6 =>
 Let (IntKind.wrap .i64 (Int.tdiv t0u2 10) : Int) fun carry =>
 Let (IntKind.wrap .i64 (s0.2.2 + 1) : Int) fun i =>
 K0 (v_4, carry, i) h0u6
 )
 )
 ) (
 ref01uCut s0.1 h0u2 fun v_5 h0u7 =>
 Q v_5 h0u7
 )
 )
 ) (out, 0, 0) h0
def ref02uAdd (x0 : Bool × Sl × Sl) (y : Bool × Sl × Sl) (h : Heap) (Q : (Bool × Sl × Sl) → Heap → Prop) : Prop :=
 mem h fun h0 =>
 ref01uMul x0.2.1 y.2.2 h0 fun v h0u1 =>
 ref01uMul y.2.1 x0.2.2 h0u1 fun v_1 h0u2 =>
 ref01uMul x0.2.2 y.2.2 h0u2 fun v_2 h0u3 =>
 iteB (x0.1 == y.1) (
 ref01uAdd v v_1 h0u3 fun v_3 h0u4 =>
 ref02uLow (x0.1, v_3, v_2) h0u4 fun v_4 h0u5 =>
 Q (v_4.1, v_4.2.1, v_4.2.2) h0u5
 ) (
 ref01uCmp v v_1 h0u3 fun v_5 h0u6 =>
 iteB (decide (v_5 ≥ 0)) (
 ref01uSub v v_1 h0u6 fun v_6 h0u7 =>
 ref02uLow (x0.1, v_6, v_2) h0u7 fun v_7 h0u8 =>
 Q (v_7.1, v_7.2.1, v_7.2.2) h0u8
 ) (
 ref01uSub v_1 v h0u6 fun v_8 h0u9 =>
 ref02uLow (y.1, v_8, v_2) h0u9 fun v_9 h0u10 =>
 Q (v_9.1, v_9.2.1, v_9.2.2) h0u10
 )
 )
def ref02uCmp (x0 : Bool × Sl × Sl) (y : Bool × Sl × Sl) (h : Heap) (Q : Int → Heap → Prop) : Prop :=
 mem h fun h0 =>
 seq (fun (K0 : (Bool × Sl × Sl) → Heap → Prop) =>
 mem h0 fun h0u2 =>
 ref02uNeg (y.1, y.2.1, y.2.2) h0u2 fun v_3 h0u9 =>
 mem h0u9 fun h0u10 =>
 ref02uAdd (x0.1, x0.2.1, x0.2.2) (v_3.1, v_3.2.1, v_3.2.2) h0u10 fun v_4 h0u11 =>
 mem h0u11 fun h0u12 =>
 K0 (v_4.1, v_4.2.1, v_4.2.2) h0u12
 ) (fun t0 h0u1 =>
 iteB (((t0.2.1.len : Nat) : Int) == 0) (
 Q 0 h0u1
 ) (
 iteB t0.1 (
 Q (-1) h0u1
 ) (
 Q 1 h0u1
 )
 )
 )
def ref13uRight (p : Int × Int × Sl × Sl × Sl × Sl × Sl) (h : Heap) (Q : Bool → Heap → Prop) : Prop :=
 mem h fun h0 =>
 seq (fun (K0 : Bool → Heap → Prop) =>
 iteB (decide (p.1 < 0)) (
 K0 true h0
 ) (
 K0 (decide (p.2.1 < 0)) h0
 )
 ) (fun t0 h0u1 =>
 iteB t0 (
 Q false h0u1
 ) (
 loop (fun (s0 : Int) h0u2 (K0u1 : Int → Heap → Prop) =>
 iteB (decide (s0 < ((p.2.2.1.len : Nat) : Int))) (
 idxS p.2.2.1 s0 4 fun a =>
 loadS C_bool_sl_sl_sl 4 a h0u2 fun v =>
 mem h0u2 fun h0u3 =>
 seq (fun (K0u2 : Bool → Heap → Prop) =>
 ref12uRight (v.1, v.2.1, v.2.2.1, v.2.2.2) h0u3 fun v_1 h0u5 =>
 iteB (!v_1) (
 K0u2 true h0u5
 ) (
 iteB (decide (((v.2.2.2.len : Nat) : Int) < 2)) (
 K0u2 true h0u5
 ) (
 iteB (decide (((v.2.1.len : Nat) : Int) > 0)) (
 K0u2 true h0u5
 ) (
 idxS v.2.2.2 (IntKind.wrap .i64 (((v.2.2.2.len : Nat) : Int) - 1)) 4 fun a_1 =>
 Lift.load (Value.int .i64) (a_1.add 0) h0u5 fun v_2 =>
 K0u2 (decide (v_2 ≥ p.2.1)) h0u5
 )
 )
 )
 ) (fun t0u1 h0u4 =>
 iteB t0u1 (
 Q false h0u4
 ) (
 Let (IntKind.wrap .i64 (s0 + 1) : Int) fun i =>
 K0u1 i h0u4
 )
 )
 ) (
 loop (fun (s0u1 : Int) h0u6 (K0u3 : Int → Heap → Prop) =>
 iteB (decide (s0u1 < ((p.2.2.2.1.len : Nat) : Int))) (
 idxS p.2.2.2.1 s0u1 9 fun a_2 =>
 loadS C_i64ui64ui64ubool_sl_sl_bool_sl_sl 9 a_2 h0u6 fun v_3 =>
 mem h0u6 fun h0u7 =>
 seq (fun (K0u4 : Bool → Heap → Prop) =>
 iteB (decide (v_3.1 < 0)) (
 K0u4 true h0u7
 ) (
 iteB (decide (v_3.1 ≥ p.1)) (
 K0u4 true h0u7
 ) (
 iteB (decide (v_3.2.2.1 < (-1))) (
 K0u4 true h0u7
 ) (
 iteB (decide (v_3.2.2.1 ≥ ((p.2.2.1.len : Nat) : Int))) (
 K0u4 true h0u7
 ) (
 iteB (decide (v_3.2.2.1 ≥ 0)) (
 iteB (v_3.2.1 != 0) (
 K0u4 true h0u7
 ) (
 iteB (decide (v_3.2.2.1 < 0)) (
 iteB (decide (v_3.2.1 < 0)) (
 K0u4 true h0u7
 ) (
 K0u4 (decide (v_3.2.1 ≥ p.2.1)) h0u7
 )
 ) (
 K0u4 false h0u7
 )
 )
 ) (
 iteB (decide (v_3.2.2.1 < 0)) (
 iteB (decide (v_3.2.1 < 0)) (
 K0u4 true h0u7
 ) (
 K0u4 (decide (v_3.2.1 ≥ p.2.1)) h0u7
 )
 ) (
 K0u4 false h0u7
 )
 )
 )
 )
 )
 )
 ) (fun t0u2 h0u8 =>
 iteB t0u2 (
 Q false h0u8
 ) (
 seq (fun (K0u5 : Bool → Heap → Prop) =>
 ref02uRight (v_3.2.2.2.1, v_3.2.2.2.2.1, v_3.2.2.2.2.2.1) h0u8 fun v_4 h0u10 =>
 iteB (!v_4) (
 K0u5 true h0u10
 ) (
 ref02uRight (v_3.2.2.2.2.2.2.1, v_3.2.2.2.2.2.2.2.1, v_3.2.2.2.2.2.2.2.2) h0u10 fun v_5 h0u11 =>
 K0u5 (!v_5) h0u11
 )
 ) (fun t0u3 h0u9 =>
 iteB t0u3 (
 Q false h0u9
 ) (
 ref02uOf (v_3.2.2.2.2.2.2.1, v_3.2.2.2.2.2.2.2.1, v_3.2.2.2.2.2.2.2.2) h0u9 fun v_6 h0u12 =>
 mem h0u12 fun h0u13 =>
 seq (fun (K0u6 : Bool → Heap → Prop) =>
 ref02uInt 0 h0u13 fun v_7 h0u15 =>
 ref02uCmp (v_6.1, v_6.2.1, v_6.2.2) (v_7.1, v_7.2.1, v_7.2.2) h0u15 fun v_8 h0u16 =>
 iteB (v_8 != 0) (
 ref02uInt (-1) h0u16 fun v_9 h0u17 =>
 ref02uCmp (v_6.1, v_6.2.1, v_6.2.2) (v_9.1, v_9.2.1, v_9.2.2) h0u17 fun v_10 h0u18 =>
 K0u6 (v_10 != 0) h0u18
 ) (
 K0u6 false h0u16
 )
 ) (fun t0u4 h0u14 =>
 iteB t0u4 (
 Q false h0u14
 ) (
 loop (fun (s0u2 : Int) h0u19 (K0u7 : Int → Heap → Prop) =>
 iteB (decide (s0u2 < s0u1)) (
 idxS p.2.2.2.1 s0u2 9 fun a_3 =>
 Lift.load (Value.int .i64) (a_3.add 0) h0u19 fun v_11 =>
 iteB (v_11 == v_3.1) (
 Q false h0u19
 ) (
 Let (IntKind.wrap .i64 (s0u2 + 1) : Int) fun k =>
 K0u7 k h0u19
 )
 ) (
 Let (IntKind.wrap .i64 (s0u1 + 1) : Int) fun i_1 =>
 K0u3 i_1 h0u19
 )
 ) 0 h0u14
 )
 )
 )
 )
 )
 )
 ) (
 loop (fun (s0u3 : Int) h0u20 (K0u8 : Int → Heap → Prop) =>
 iteB (decide (s0u3 < ((p.2.2.2.2.1.len : Nat) : Int))) (
 loop (fun (s0u4 : Int) h0u21 (K0u9 : Int → Heap → Prop) =>
 idxS p.2.2.2.2.1 s0u3 1 fun a_4 =>
 Lift.load Sl.toV a_4 h0u21 fun v_12 =>
 iteB (decide (s0u4 < ((v_12.len : Nat) : Int))) (
 idxS p.2.2.2.2.1 s0u3 1 fun a_5 =>
 Lift.load Sl.toV a_5 h0u21 fun v_13 =>
 idxS v_13 s0u4 1 fun a_6 =>
 Lift.load (Value.int .i64) a_6 h0u21 fun v_14 =>
 seq (fun (K0u10 : Bool → Heap → Prop) =>
 iteB (v_14 == 0) (
 K0u10 true h0u21
 ) (
 iteB (decide (v_14 > 0)) (
 iteB (decide (v_14 > p.1)) (
 K0u10 true h0u21
 ) (
 iteB (decide (v_14 < 0)) (
 K0u10 (decide (v_14 < (IntKind.wrap .i64 (0 - p.1)))) h0u21
 ) (
 K0u10 false h0u21
 )
 )
 ) (
 iteB (decide (v_14 < 0)) (
 K0u10 (decide (v_14 < (IntKind.wrap .i64 (0 - p.1)))) h0u21
 ) (
 K0u10 false h0u21
 )
 )
 )
 ) (fun t0u5 h0u22 =>
 iteB t0u5 (
 Q false h0u22
 ) (
 Let (IntKind.wrap .i64 (s0u4 + 1) : Int) fun k_1 =>
 K0u9 k_1 h0u22
 )
 )
 ) (
 Let (IntKind.wrap .i64 (s0u3 + 1) : Int) fun i_2 =>
 K0u8 i_2 h0u21
 )
 ) 0 h0u20
 ) (
 Q true h0u20
 )
 ) 0 h0u6
 )
 ) 0 h0u2
 )
 ) 0 h0u1
 )
 )
def ref02uMul (x0 : Bool × Sl × Sl) (y : Bool × Sl × Sl) (h : Heap) (Q : (Bool × Sl × Sl) → Heap → Prop) : Prop :=
 mem h fun h0 =>
 ref01uMul x0.2.1 y.2.1 h0 fun v h0u1 =>
 ref01uMul x0.2.2 y.2.2 h0u1 fun v_1 h0u2 =>
 ref02uLow ((!(x0.1 == y.1)), v, v_1) h0u2 fun v_2 h0u3 =>
 Q (v_2.1, v_2.2.1, v_2.2.2) h0u3
def ref12uValue (p : Bool × Sl × Sl × Sl) (reals : Sl) (h : Heap) (Q : (Bool × Sl × Sl) → Heap → Prop) : Prop :=
 mem h fun h0 =>
 ref02uOf (p.1, p.2.1, p.2.2.1) h0 fun v h0u1 =>
 mem h0u1 fun h0u2 =>
 loop (fun (s0 : Int × Bool × Sl × Sl) h0u3 (K0 : (Int × Bool × Sl × Sl) → Heap → Prop) =>
 iteB (decide (s0.1 < ((p.2.2.2.len : Nat) : Int))) (
 idxS p.2.2.2 s0.1 4 fun a =>
 loadS C_bool_sl_sl 3 (a.add 1) h0u3 fun v_1 =>
 idxS p.2.2.2 s0.1 4 fun a_1 =>
 Lift.load (Value.int .i64) (a_1.add 0) h0u3 fun v_2 =>
 idxS reals v_2 3 fun a_2 =>
 loadS C_bool_sl_sl 3 a_2 h0u3 fun v_3 =>
 ref02uOf (v_1.1, v_1.2.1, v_1.2.2) h0u3 fun v_4 h0u4 =>
 (cell? h0u4 (a_1.add 0) = some (Value.int .i64 v_2)) ∧
 (cells? h0u4 a_2 3 0 = some [Value.bool v_3.1, Sl.toV v_3.2.1, Sl.toV v_3.2.2]) ∧
 ref02uOf (v_3.1, v_3.2.1, v_3.2.2) h0u4 fun v_5 h0u5 =>
 ref02uMul (v_4.1, v_4.2.1, v_4.2.2) (v_5.1, v_5.2.1, v_5.2.2) h0u5 fun v_6 h0u6 =>
 ref02uAdd (s0.2.1, s0.2.2.1, s0.2.2.2) (v_6.1, v_6.2.1, v_6.2.2) h0u6 fun v_7 h0u7 =>
 Let (IntKind.wrap .i64 (s0.1 + 1) : Int) fun i =>
 K0 (i, v_7.1, v_7.2.1, v_7.2.2) h0u7
 ) (
 Q (s0.2.1, s0.2.2.1, s0.2.2.2) h0u3
 )
 ) (0, v.1, v.2.1, v.2.2) h0u2
def ref03uOf (x0 : Bool × Sl × Sl × Bool × Sl × Sl) (h : Heap) (Q : (Bool × Sl × Sl × Bool × Sl × Sl) → Heap → Prop) : Prop :=
 mem h fun h0 =>
 ref02uOf (x0.1, x0.2.1, x0.2.2.1) h0 fun v h0u1 =>
 ref02uOf (x0.2.2.2.1, x0.2.2.2.2.1, x0.2.2.2.2.2) h0u1 fun v_1 h0u2 =>
 Q (v.1, v.2.1, v.2.2, v_1.1, v_1.2.1, v_1.2.2) h0u2
def ref03uCmp (x0 : Bool × Sl × Sl × Bool × Sl × Sl) (y : Bool × Sl × Sl × Bool × Sl × Sl) (h : Heap) (Q : Int → Heap → Prop) : Prop :=
 mem h fun h0 =>
 ref02uCmp (x0.1, x0.2.1, x0.2.2.1) (y.1, y.2.1, y.2.2.1) h0 fun v h0u1 =>
 seq (fun (K0 : Int → Heap → Prop) =>
 iteB (v == 0) (
 ref02uCmp (x0.2.2.2.1, x0.2.2.2.2.1, x0.2.2.2.2.2) (y.2.2.2.1, y.2.2.2.2.1, y.2.2.2.2.2) h0u1 fun v_1 h0u3 =>
 K0 v_1 h0u3
 ) (
 K0 v h0u1
 )
 ) (fun t0 h0u2 =>
 Q t0 h0u2
 )
def law16uFarkasNever (p : Int × Int × Sl × Sl × Sl × Sl × Sl) (list : Sl) (reals : Sl) (h : Heap) (Q : Bool → Heap → Prop) : Prop :=
 mem h fun h0 =>
 law16uspeaks h0 fun v h0u1 =>
 iteB (!v) (
 Q false h0u1
 ) (
 seq (fun (K0 : Bool → Heap → Prop) =>
 law16uGreat (p.1, p.2.1, p.2.2.1, p.2.2.2.1, p.2.2.2.2.1, p.2.2.2.2.2.1, p.2.2.2.2.2.2) list h0u1 fun v_1 h0u3 =>
 iteB v_1 (
 K0 true h0u3
 ) (
 iteB (((reals.len : Nat) : Int) != p.2.1) (
 K0 true h0u3
 ) (
 iteB (decide (((reals.len : Nat) : Int) > 30)) (
 K0 true h0u3
 ) (
 ref13uRight (p.1, p.2.1, p.2.2.1, p.2.2.2.1, p.2.2.2.2.1, p.2.2.2.2.2.1, p.2.2.2.2.2.2) h0u3 fun v_2 h0u4 =>
 iteB (!v_2) (
 K0 true h0u4
 ) (
 farkas_Holds (p.1, p.2.1, p.2.2.1, p.2.2.2.1, p.2.2.2.2.1, p.2.2.2.2.2.1, p.2.2.2.2.2.2) list h0u4 fun v_3 h0u5 =>
 K0 (!v_3) h0u5
 )
 )
 )
 )
 ) (fun t0 h0u2 =>
 iteB t0 (
 Q true h0u2
 ) (
 loop (fun (s0 : Int) h0u6 (K0u1 : Int → Heap → Prop) =>
 iteB (decide (s0 < ((reals.len : Nat) : Int))) (
 idxS reals s0 3 fun a =>
 loadS C_bool_sl_sl 3 a h0u6 fun v_4 =>
 mem h0u6 fun h0u7 =>
 seq (fun (K0u2 : Bool → Heap → Prop) =>
 new [Value.bool v_4.1, Sl.toV v_4.2.1, Sl.toV v_4.2.2] h0u7 fun a_1 h0u9 =>
 law02uGreat (⟨some a_1, 1, 1⟩ : Sl) h0u9 fun v_6 h0u10 =>
 iteB v_6 (
 K0u2 true h0u10
 ) (
 ref02uRight (v_4.1, v_4.2.1, v_4.2.2) h0u10 fun v_7 h0u11 =>
 K0u2 (!v_7) h0u11
 )
 ) (fun t0u1 h0u8 =>
 iteB t0u1 (
 Q true h0u8
 ) (
 K0u1 (IntKind.wrap .i64 (s0 + 1)) h0u8
 )
 )
 ) (
 loop (fun (s0u1 : Int) h0u12 (K0u3 : Int → Heap → Prop) =>
 iteB (decide (s0u1 < ((list.len : Nat) : Int))) (
 idxS list s0u1 4 fun a_2 =>
 loadS C_i64ubool_sl_sl 4 a_2 h0u12 fun v_8 =>
 mem h0u12 fun h0u13 =>
 loop (fun (s0u2 : Int) h0u14 (K0u4 : Int → Heap → Prop) =>
 iteB (decide (s0u2 < ((p.2.2.2.1.len : Nat) : Int))) (
 seq (fun (K0u5 : Unit → Heap → Prop) =>
 idxS p.2.2.2.1 s0u2 9 fun a_3 =>
 loadS C_i64ui64ui64ubool_sl_sl_bool_sl_sl 9 a_3 h0u14 fun v_9 =>
 mem h0u14 fun h0u16 =>
 iteB (v_9.1 != (IntKind.wrap .i64 ((if (IntKind.wrap .i64 (0 - v_8.1)) > v_8.1 then (IntKind.wrap .i64 (0 - v_8.1)) else v_8.1) - 1))) (
 K0u5 () h0u16
 ) (
 seq (fun (K0u6 : (Bool × Sl × Sl × Sl) → Heap → Prop) =>
 mem h0u16 fun h0u18 =>
 ratio_Of 1 h0u18 fun v_13 h0u25 =>
 mem h0u25 fun h0u26 =>
 new [Value.int .i64 v_9.2.1, Value.bool v_13.1, Sl.toV v_13.2.1, Sl.toV v_13.2.2] h0u26 fun a_6 h0u27 =>
 mem h0u27 fun h0u28 =>
 K0u6 (false, Sl.nil, Sl.nil, (⟨some a_6, 1, 1⟩ : Sl)) h0u28
 ) (fun t0u3 h0u17 =>
 seq (fun (K0u7 : (Bool × Sl × Sl × Sl) → Heap → Prop) =>
 iteB (decide (v_9.2.2.1 ≥ 0)) (
 idxS p.2.2.1 v_9.2.2.1 4 fun a_7 =>
 loadS C_bool_sl_sl_sl 4 a_7 h0u17 fun v_15 =>
 K0u7 (v_15.1, v_15.2.1, v_15.2.2.1, v_15.2.2.2) h0u17
 ) (
 K0u7 (t0u3.1, t0u3.2.1, t0u3.2.2.1, t0u3.2.2.2) h0u17
 )
 ) (fun t0u4 h0u29 =>
 ref12uValue (t0u4.1, t0u4.2.1, t0u4.2.2.1, t0u4.2.2.2) reals h0u29 fun v_16 h0u30 =>
 ref02uInt 0 h0u30 fun v_17 h0u31 =>
 mem h0u31 fun h0u32 =>
 ref03uOf (v_9.2.2.2.1, v_9.2.2.2.2.1, v_9.2.2.2.2.2.1, v_9.2.2.2.2.2.2.1, v_9.2.2.2.2.2.2.2.1, v_9.2.2.2.2.2.2.2.2) h0u32 fun v_18 h0u33 =>
 ref03uCmp (v_16.1, v_16.2.1, v_16.2.2, v_17.1, v_17.2.1, v_17.2.2) (v_18.1, v_18.2.1, v_18.2.2.1, v_18.2.2.2.1, v_18.2.2.2.2.1, v_18.2.2.2.2.2) h0u33 fun v_19 h0u34 =>
 iteB (!((decide (v_19 ≤ 0)) == (decide (v_8.1 > 0)))) (
 Q true h0u34
 ) (
 K0u5 () h0u34
 )
 )
 )
 )
 ) (fun t0u2 h0u15 =>
 K0u4 (IntKind.wrap .i64 (s0u2 + 1)) h0u15
 )
 ) (
 K0u3 (IntKind.wrap .i64 (s0u1 + 1)) h0u14
 )
 ) 0 h0u13
 ) (
 Q false h0u12
 )
 ) 0 h0u6
 )
 ) 0 h0u2
 )
 )
 )
def C_sl_sl_sl_sl_sl (x : Sl × Sl × Sl × Sl × Sl) : List Value := [Sl.toV x.1, Sl.toV x.2.1, Sl.toV x.2.2.1, Sl.toV x.2.2.2.1, Sl.toV x.2.2.2.2]
def C_i64ubool_sl_sl_bool_sl_sl (x : Int × Bool × Sl × Sl × Bool × Sl × Sl) : List Value := [Value.int .i64 x.1, Value.bool x.2.1, Sl.toV x.2.2.1, Sl.toV x.2.2.2.1, Value.bool x.2.2.2.2.1, Sl.toV x.2.2.2.2.2.1, Sl.toV x.2.2.2.2.2.2]
end Go.Sh

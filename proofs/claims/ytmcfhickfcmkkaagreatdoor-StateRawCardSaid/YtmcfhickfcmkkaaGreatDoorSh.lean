/-
  Laws that the proof of this claim's statement leans on, each proved under the conditions that it states.
-/
import Derived.Test.YtmcfhickfcmkkaaGreatDoorFwC
set_option linter.unusedVariables false
set_option linter.unusedSimpArgs false
namespace Go.Sh
open Go Go.Lift
def amm (x : Bool × Sl) : List Value := [Value.bool x.1, Sl.toV x.2]
def dM (x : Bool × Sl × Sl) : List Value := [Value.bool x.1, Sl.toV x.2.1, Sl.toV x.2.2]
def bw (x : Bool × Sl × Sl × Bool × Sl × Sl) : List Value := [Value.bool x.1, Sl.toV x.2.1, Sl.toV x.2.2.1, Value.bool x.2.2.2.1, Sl.toV x.2.2.2.2.1, Sl.toV x.2.2.2.2.2]
def cV (x : Bool × Sl × Sl × Sl) : List Value := [Value.bool x.1, Sl.toV x.2.1, Sl.toV x.2.2.1, Sl.toV x.2.2.2]
def aQ (x : Int × Bool × Int × Bool × Sl × Sl × Bool × Sl × Sl × Int) : List Value := [Value.int .i64 x.1, Value.bool x.2.1, Value.int .i64 x.2.2.1, Value.bool x.2.2.2.1, Sl.toV x.2.2.2.2.1, Sl.toV x.2.2.2.2.2.1, Value.bool x.2.2.2.2.2.2.1, Sl.toV x.2.2.2.2.2.2.2.1, Sl.toV x.2.2.2.2.2.2.2.2.1, Value.int .i64 x.2.2.2.2.2.2.2.2.2]
def bd (x : Int × Bool × Sl × Sl) : List Value := [Value.int .i64 x.1, Value.bool x.2.1, Sl.toV x.2.2.1, Sl.toV x.2.2.2]
def cm (x : Int × Bool × Sl × Sl × Bool × Sl × Sl) : List Value := [Value.int .i64 x.1, Value.bool x.2.1, Sl.toV x.2.2.1, Sl.toV x.2.2.2.1, Value.bool x.2.2.2.2.1, Sl.toV x.2.2.2.2.2.1, Sl.toV x.2.2.2.2.2.2]
def alM (x : Int × Int) : List Value := [Value.int .i64 x.1, Value.int .i64 x.2]
def aN (x : Int × Int × Int × Bool × Sl × Sl × Bool × Sl × Sl) : List Value := [Value.int .i64 x.1, Value.int .i64 x.2.1, Value.int .i64 x.2.2.1, Value.bool x.2.2.2.1, Sl.toV x.2.2.2.2.1, Sl.toV x.2.2.2.2.2.1, Value.bool x.2.2.2.2.2.2.1, Sl.toV x.2.2.2.2.2.2.2.1, Sl.toV x.2.2.2.2.2.2.2.2]
def aG (x : Int × Int × Sl × Sl × Sl × Sl × Sl) : List Value := [Value.int .i64 x.1, Value.int .i64 x.2.1, Sl.toV x.2.2.1, Sl.toV x.2.2.2.1, Sl.toV x.2.2.2.2.1, Sl.toV x.2.2.2.2.2.1, Sl.toV x.2.2.2.2.2.2]
def ae (x : Int × Int × Sl × Sl × Sl × Sl × Sl × Int × Int × Sl × Sl × Sl × Sl × Sl × Sl × Sl × Int × Sl × Sl × Sl × Sl × Sl × Sl × Sl × Sl × Int × Sl × Int × Int × Int × Int × Int × Int) : List Value := [Value.int .i64 x.1, Value.int .i64 x.2.1, Sl.toV x.2.2.1, Sl.toV x.2.2.2.1, Sl.toV x.2.2.2.2.1, Sl.toV x.2.2.2.2.2.1, Sl.toV x.2.2.2.2.2.2.1, Value.int .i64 x.2.2.2.2.2.2.2.1, Value.int .i64 x.2.2.2.2.2.2.2.2.1, Sl.toV x.2.2.2.2.2.2.2.2.2.1, Sl.toV x.2.2.2.2.2.2.2.2.2.2.1, Sl.toV x.2.2.2.2.2.2.2.2.2.2.2.1, Sl.toV x.2.2.2.2.2.2.2.2.2.2.2.2.1, Sl.toV x.2.2.2.2.2.2.2.2.2.2.2.2.2.1, Sl.toV x.2.2.2.2.2.2.2.2.2.2.2.2.2.2.1, Sl.toV x.2.2.2.2.2.2.2.2.2.2.2.2.2.2.2.1, Value.int .i64 x.2.2.2.2.2.2.2.2.2.2.2.2.2.2.2.2.1, Sl.toV x.2.2.2.2.2.2.2.2.2.2.2.2.2.2.2.2.2.1, Sl.toV x.2.2.2.2.2.2.2.2.2.2.2.2.2.2.2.2.2.2.1, Sl.toV x.2.2.2.2.2.2.2.2.2.2.2.2.2.2.2.2.2.2.2.1, Sl.toV x.2.2.2.2.2.2.2.2.2.2.2.2.2.2.2.2.2.2.2.2.1, Sl.toV x.2.2.2.2.2.2.2.2.2.2.2.2.2.2.2.2.2.2.2.2.2.1, Sl.toV x.2.2.2.2.2.2.2.2.2.2.2.2.2.2.2.2.2.2.2.2.2.2.1, Sl.toV x.2.2.2.2.2.2.2.2.2.2.2.2.2.2.2.2.2.2.2.2.2.2.2.1, Sl.toV x.2.2.2.2.2.2.2.2.2.2.2.2.2.2.2.2.2.2.2.2.2.2.2.2.1, Value.int .i64 x.2.2.2.2.2.2.2.2.2.2.2.2.2.2.2.2.2.2.2.2.2.2.2.2.2.1, Sl.toV x.2.2.2.2.2.2.2.2.2.2.2.2.2.2.2.2.2.2.2.2.2.2.2.2.2.2.1, Value.int .i64 x.2.2.2.2.2.2.2.2.2.2.2.2.2.2.2.2.2.2.2.2.2.2.2.2.2.2.2.1, Value.int .i64 x.2.2.2.2.2.2.2.2.2.2.2.2.2.2.2.2.2.2.2.2.2.2.2.2.2.2.2.2.1, Value.int .i64 x.2.2.2.2.2.2.2.2.2.2.2.2.2.2.2.2.2.2.2.2.2.2.2.2.2.2.2.2.2.1, Value.int .i64 x.2.2.2.2.2.2.2.2.2.2.2.2.2.2.2.2.2.2.2.2.2.2.2.2.2.2.2.2.2.2.1, Value.int .i64 x.2.2.2.2.2.2.2.2.2.2.2.2.2.2.2.2.2.2.2.2.2.2.2.2.2.2.2.2.2.2.2.1, Value.int .i64 x.2.2.2.2.2.2.2.2.2.2.2.2.2.2.2.2.2.2.2.2.2.2.2.2.2.2.2.2.2.2.2.2]
def amK (x : (Option Addr)) : List Value := [Value.pointer x]
def aaf (x : (Option Addr) × (Option Addr) × (Option Addr) × (Option Addr) × (Option Addr) × (Option Addr)) : List Value := [Value.pointer x.1, Value.pointer x.2.1, Value.pointer x.2.2.1, Value.pointer x.2.2.2.1, Value.pointer x.2.2.2.2.1, Value.pointer x.2.2.2.2.2]
def aZ (x : Sl × Bool × Int) : List Value := [Sl.toV x.1, Value.bool x.2.1, Value.int .i64 x.2.2]
def akF (x : Sl × Sl) : List Value := [Sl.toV x.1, Sl.toV x.2]
def cD (x : Sl × Sl × Sl × Sl × Sl) : List Value := [Sl.toV x.1, Sl.toV x.2.1, Sl.toV x.2.2.1, Sl.toV x.2.2.2.1, Sl.toV x.2.2.2.2]
def ag (x : Sl × Sl × Sl × Sl × Sl × Sl × Sl × Int) : List Value := [Sl.toV x.1, Sl.toV x.2.1, Sl.toV x.2.2.1, Sl.toV x.2.2.2.1, Sl.toV x.2.2.2.2.1, Sl.toV x.2.2.2.2.2.1, Sl.toV x.2.2.2.2.2.2.1, Value.int .i64 x.2.2.2.2.2.2.2]
abbrev aD : Nat := 0
def eu (s0 : Sl) (h : Heap) (Q : Sl → Heap → Prop) : Prop :=
 iteB s0.a.isNone (
 Q Sl.nil h
 ) (
 new [] h fun a h0 =>
 aP 1 1 (⟨some a, 0, 0⟩ : Sl) s0 h0 fun v_1 h1 =>
 Q v_1 h1
 )
def xn (b : Sl) (h : Heap) (Q : ((Option Addr)) → Heap → Prop) : Prop :=
 eu b h fun v h0 =>
 new [Sl.toV v, Value.bool false] h0 fun a h1 =>
 Q (some a) h1
def i4 (in0 : (Option Addr)) (h : Heap) (Q : Unit → Heap → Prop) : Prop :=
 ah in0 fun a =>
 dk a [Sl.toV Sl.nil, Value.bool true] h fun h0 =>
 Q () h0
def qd (in0 : (Option Addr)) (n : Int) (h : Heap) (Q : Sl → Heap → Prop) : Prop :=
 seq (fun (K0 : Bool → Heap → Prop) =>
 ah in0 fun a =>
 Lift.load Value.bool (a.add 1) h fun v =>
 iteB v (
 K0 true h
 ) (
 iteB (decide (n < 0)) (
 K0 true h
 ) (
 ah in0 fun a_1 =>
 Lift.load Sl.toV (a_1.add 0) h fun v_1 =>
 K0 (decide (n > (v_1.len : Int))) h
 )
 )
 ) (fun t0 h0 =>
 iteB t0 (
 i4 in0 h0 fun v_2 h1 =>
 Q Sl.nil h1
 ) (
 ah in0 fun a_2 =>
 Lift.load Sl.toV (a_2.add 0) h0 fun v_3 =>
 ki v_3 none (some n) (some n) 1 fun v_4 =>
 ah in0 fun a_3 =>
 Lift.load Sl.toV (a_3.add 0) h0 fun v_5 =>
 ki v_5 (some n) none none 1 fun v_6 =>
 ah in0 fun a_4 =>
 Lift.amL (a_4.add 0) (Sl.toV v_6) h0 fun h2 =>
 Q v_4 h2
 )
 )
def ik (in0 : (Option Addr)) (size : Int) (h : Heap) (Q : Int → Heap → Prop) : Prop :=
 qd in0 size h fun v h0 =>
 loop (fun (s0 : Int × Int) h1 (K0 : (Int × Int) → Heap → Prop) =>
 iteB (decide (s0.2 < (v.len : Int))) (
 idxS v s0.2 1 fun a =>
 Lift.load (Value.int .u8) a h1 fun v_1 =>
 Let (IntKind.wrap .u64 (((BitVec.ofInt (IntKind.bits .u64) (IntKind.wrap .u64 (s0.1 * 2 ^ (min (Int.toNat 8) (IntKind.bits .u64)))) ||| BitVec.ofInt (IntKind.bits .u64) (IntKind.wrap .u64 v_1)).toNat : Int)) : Int) fun n =>
 K0 (n, IntKind.wrap .i64 (s0.2 + 1)) h1
 ) (
 Q s0.1 h1
 )
 ) (0, 0) h0
def aR (in0 : (Option Addr)) (h : Heap) (Q : Int → Heap → Prop) : Prop :=
 ik in0 8 h fun v h0 =>
 Q (IntKind.wrap .i64 v) h0
def bI (in0 : (Option Addr)) (least : Int) (h : Heap) (Q : Int → Heap → Prop) : Prop :=
 aR in0 h fun v h0 =>
 seq (fun (K0 : Bool → Heap → Prop) =>
 iteB (decide (v < 0)) (
 K0 true h0
 ) (
 ah in0 fun a =>
 Lift.load Sl.toV (a.add 0) h0 fun v_1 =>
 ((if 1 > least then 1 else least) ≠ 0) ∧
 K0 (decide (v > (IntKind.wrap .i64 (Int.tdiv (v_1.len : Int) (if 1 > least then 1 else least))))) h0
 )
 ) (fun t0 h1 =>
 iteB t0 (
 i4 in0 h1 fun v_2 h2 =>
 Q 0 h2
 ) (
 Q v h1
 )
 )
def gF (in0 : (Option Addr)) (h : Heap) (Q : Bool → Heap → Prop) : Prop :=
 ik in0 1 h fun v h0 =>
 seq (fun (K0 : Unit → Heap → Prop) =>
 iteB (decide (v > 1)) (
 i4 in0 h0 fun v_1 h2 =>
 K0 () h2
 ) (
 K0 () h0
 )
 ) (fun t0 h1 =>
 Q (v == 1) h1
 )
def po (in0 : (Option Addr)) (h : Heap) (Q : Int → Heap → Prop) : Prop :=
 ik in0 4 h fun v h0 =>
 Q (IntKind.wrap .u32 v) h0
def b8 (in0 : (Option Addr)) (least : Int) (take_b : (Option Addr)) (h : Heap) (Q : Sl → Heap → Prop) : Prop :=
 bI in0 least h fun v h0 =>
 loop (fun (s0 : Sl × Int) h1 (K0 : (Sl × Int) → Heap → Prop) =>
 iteB (decide (s0.2 < v)) (
 po take_b h1 fun v_1 h2 =>
 new [Value.int .u32 v_1] h2 fun a h3 =>
 aP 1 4 s0.1 (⟨some a, 1, 1⟩ : Sl) h3 fun v_3 h4 =>
 ah in0 fun a_1 =>
 Lift.load Value.bool (a_1.add 1) h4 fun v_4 =>
 iteB v_4 (
 Q Sl.nil h4
 ) (
 K0 (v_3, IntKind.wrap .i64 (s0.2 + 1)) h4
 )
 ) (
 Q s0.1 h1
 )
 ) (Sl.nil, 0) h0
def bZ (x0 : Sl) (h : Heap) (Q : Sl → Heap → Prop) : Prop :=
 loop (fun (s0 : Sl) h0 (K0 : Sl → Heap → Prop) =>
 seq (fun (K0u1 : Bool → Heap → Prop) =>
 iteB (decide ((s0.len : Int) > 0)) (
 idxS s0 (IntKind.wrap .i64 ((s0.len : Int) - 1)) 1 fun a =>
 Lift.load (Value.int .u32) a h0 fun v =>
 K0u1 (v == 0) h0
 ) (
 K0u1 false h0
 )
 ) (fun t0 h1 =>
 iteB t0 (
 ki s0 none (some (IntKind.wrap .i64 ((s0.len : Int) - 1))) none 1 fun v_1 =>
 K0 v_1 h1
 ) (
 Q s0 h1
 )
 )
 ) x0 h
def qa (x0 : Sl) (h : Heap) (Q : Bool → Heap → Prop) : Prop :=
 bZ x0 h fun v h0 =>
 Q ((v.len : Int) == (x0.len : Int)) h0
def tH (h : Heap) (Q : Sl → Heap → Prop) : Prop :=
 new [Value.int .u32 1] h fun a h0 =>
 Q (⟨some a, 1, 1⟩ : Sl) h0
def dT (s1 : Sl) (s2 : Sl) (h : Heap) (Q : Bool → Heap → Prop) : Prop :=
 iteB ((s1.len : Int) != (s2.len : Int)) (
 Q false h
 ) (
 loop (fun (s0 : Int) h0 (K0 : Int → Heap → Prop) =>
 iteB (decide (s0 < (s1.len : Int))) (
 idxS s1 s0 1 fun a =>
 Lift.load (Value.int .u32) a h0 fun v =>
 idxS s2 s0 1 fun a_1 =>
 Lift.load (Value.int .u32) a_1 h0 fun v_1 =>
 iteB (v != v_1) (
 Q false h0
 ) (
 K0 (IntKind.wrap .i64 (s0 + 1)) h0
 )
 ) (
 Q true h0
 )
 ) 0 h
 )
def jv (x0 : Sl) (h : Heap) (Q : Bool → Heap → Prop) : Prop :=
 tH h fun v h0 =>
 dT x0 v h0 fun v_1 h1 =>
 Q v_1 h1
def acl (limbs : Int) (h : Heap) (Q : ((Option Addr)) → Heap → Prop) : Prop :=
 new [Value.int .i64 (if 1 > limbs then 1 else limbs), Value.bool false] h fun a h0 =>
 Q (some a) h0
def i5 (h : Heap) (Q : ((Option Addr)) → Heap → Prop) : Prop :=
 acl 16777216 h fun v h0 =>
 Q v h0
def gE (x0 : Bool × Sl × Sl) (h : Heap) (Q : Sl → Heap → Prop) : Prop :=
 mem h fun h0 =>
 iteB ((x0.2.2.len : Int) == 0) (
 tH h0 fun v h1 =>
 Q v h1
 ) (
 Q x0.2.2 h0
 )
def kW (x0 : Sl) (h : Heap) (Q : (Int × Bool) → Heap → Prop) : Prop :=
 bZ x0 h fun v h0 =>
 Let (IntKind.wrap .i64 ((v.len : Int) - 1) : Int) fun i =>
 loop (fun (s0 : Int × Int) h1 (K0 : (Int × Int) → Heap → Prop) =>
 iteB (decide (s0.2 ≥ 0)) (
 idxS v s0.2 1 fun a =>
 Lift.load (Value.int .u32) a h1 fun v_1 =>
 Let (IntKind.wrap .u64 (((BitVec.ofInt (IntKind.bits .u64) (IntKind.wrap .u64 (s0.1 * 2 ^ (min (Int.toNat 32) (IntKind.bits .u64)))) ||| BitVec.ofInt (IntKind.bits .u64) (IntKind.wrap .u64 v_1)).toNat : Int)) : Int) fun n =>
 Let (IntKind.wrap .i64 (s0.2 - 1) : Int) fun i_1 =>
 K0 (n, i_1) h1
 ) (
 Let (decide ((v.len : Int) ≤ 2) : Bool) fun ok =>
 Q (s0.1, ok) h1
 )
 ) (0, i) h0
def r6 (n : Int) (h : Heap) (Q : Sl → Heap → Prop) : Prop :=
 new [Value.int .u32 (IntKind.wrap .u32 n), Value.int .u32 (IntKind.wrap .u32 (Int.fdiv n (2 ^ (min (Int.toNat 32) (IntKind.bits .u64)))))] h fun a h0 =>
 bZ (⟨some a, 2, 2⟩ : Sl) h0 fun v_1 h1 =>
 Q v_1 h1
def cR (x0 : Int) (h : Heap) (Q : Int → Heap → Prop) : Prop :=
 iteB (x0 == 0) (
 Q 32 h
 ) (
 ((0 : Int) ≤ ((Int.fdiv (IntKind.wrap .u32 ((IntKind.wrap .u32 (((BitVec.ofInt (IntKind.bits .u32) x0 &&& BitVec.ofInt (IntKind.bits .u32) (IntKind.wrap .u32 (0 - x0))).toNat : Int))) * 125613361)) (2 ^ (min (Int.toNat 27) (IntKind.bits .u32)))) : Int) ∧ ((Int.fdiv (IntKind.wrap .u32 ((IntKind.wrap .u32 (((BitVec.ofInt (IntKind.bits .u32) x0 &&& BitVec.ofInt (IntKind.bits .u32) (IntKind.wrap .u32 (0 - x0))).toNat : Int))) * 125613361)) (2 ^ (min (Int.toNat 27) (IntKind.bits .u32)))) : Int) < 32) ∧
 Lift.load (Value.int .u8) ((⟨aD, 0, none⟩ : Addr).add (Int.toNat (Int.fdiv (IntKind.wrap .u32 ((IntKind.wrap .u32 (((BitVec.ofInt (IntKind.bits .u32) x0 &&& BitVec.ofInt (IntKind.bits .u32) (IntKind.wrap .u32 (0 - x0))).toNat : Int))) * 125613361)) (2 ^ (min (Int.toNat 27) (IntKind.bits .u32)))) * 1)) h fun v =>
 Q (IntKind.wrap .i64 v) h
 )
def bU (s0 : Sl) (h : Heap) (Q : Sl → Heap → Prop) : Prop :=
 iteB s0.a.isNone (
 Q Sl.nil h
 ) (
 new [] h fun a h0 =>
 aP 1 4 (⟨some a, 0, 0⟩ : Sl) s0 h0 fun v_1 h1 =>
 Q v_1 h1
 )
def mQ (x0 : Sl) (h : Heap) (Q : (Sl × Int) → Heap → Prop) : Prop :=
 loop (fun (s0 : Int) h0 (K0 : Int → Heap → Prop) =>
 idxS x0 (IntKind.wrap .i64 (Int.tdiv s0 32)) 1 fun a =>
 Lift.load (Value.int .u32) a h0 fun v =>
 iteB (v == 0) (
 Let (IntKind.wrap .i64 (s0 + 32) : Int) fun k =>
 K0 k h0
 ) (
 idxS x0 (IntKind.wrap .i64 (Int.tdiv s0 32)) 1 fun a_1 =>
 Lift.load (Value.int .u32) a_1 h0 fun v_1 =>
 cR v_1 h0 fun v_2 h1 =>
 Let (IntKind.wrap .i64 (s0 + v_2) : Int) fun k_1 =>
 ki x0 (some (IntKind.wrap .i64 (Int.tdiv k_1 32))) none none 1 fun v_3 =>
 bU v_3 h1 fun v_4 h2 =>
 seq (fun (K0u1 : Unit → Heap → Prop) =>
 Let (Int.tmod k_1 32 : Int) fun s0u1 =>
 iteB (decide (s0u1 > 0)) (
 loop (fun (s0u2 : Int) h4 (K0u2 : Int → Heap → Prop) =>
 iteB (decide (s0u2 < (v_4.len : Int))) (
 seq (fun (K0u3 : Unit → Heap → Prop) =>
 idxS v_4 s0u2 1 fun a_2 =>
 Lift.load (Value.int .u32) a_2 h4 fun v_5 =>
 (0 ≤ s0u1) ∧
 idxS v_4 s0u2 1 fun a_3 =>
 Lift.amL a_3 (Value.int .u32 (Int.fdiv v_5 (2 ^ (min (Int.toNat s0u1) (IntKind.bits .u32))))) h4 fun h6 =>
 iteB (decide ((IntKind.wrap .i64 (s0u2 + 1)) < (v_4.len : Int))) (
 idxS v_4 s0u2 1 fun a_4 =>
 Lift.load (Value.int .u32) a_4 h6 fun v_6 =>
 idxS v_4 (IntKind.wrap .i64 (s0u2 + 1)) 1 fun a_5 =>
 Lift.load (Value.int .u32) a_5 h6 fun v_7 =>
 (0 ≤ (IntKind.wrap .i64 (32 - s0u1))) ∧
 idxS v_4 s0u2 1 fun a_6 =>
 Lift.amL a_6 (Value.int .u32 (IntKind.wrap .u32 (((BitVec.ofInt (IntKind.bits .u32) v_6 ||| BitVec.ofInt (IntKind.bits .u32) (IntKind.wrap .u32 (v_7 * 2 ^ (min (Int.toNat (IntKind.wrap .i64 (32 - s0u1))) (IntKind.bits .u32))))).toNat : Int)))) h6 fun h7 =>
 K0u3 () h7
 ) (
 K0u3 () h6
 )
 ) (fun t0u1 h5 =>
 K0u2 (IntKind.wrap .i64 (s0u2 + 1)) h5
 )
 ) (
 K0u1 () h4
 )
 ) 0 h2
 ) (
 K0u1 () h2
 )
 ) (fun t0 h3 =>
 bZ v_4 h3 fun v_8 h8 =>
 Q (v_8, k_1) h8
 )
 )
 ) 0 h
def sE (n : Int) (h : Heap) (Q : Int → Heap → Prop) : Prop :=
 Q (if (-1) > (if 1 < n then 1 else n) then (-1) else (if 1 < n then 1 else n)) h
def ni (x0 : Sl) (y : Sl) (h : Heap) (Q : Int → Heap → Prop) : Prop :=
 bZ x0 h fun v h0 =>
 bZ y h0 fun v_1 h1 =>
 iteB ((v.len : Int) != (v_1.len : Int)) (
 sE (IntKind.wrap .i64 ((v.len : Int) - (v_1.len : Int))) h1 fun v_2 h2 =>
 Q v_2 h2
 ) (
 Let (IntKind.wrap .i64 ((v.len : Int) - 1) : Int) fun i =>
 loop (fun (s0 : Int) h3 (K0 : Int → Heap → Prop) =>
 iteB (decide (s0 ≥ 0)) (
 idxS v s0 1 fun a =>
 Lift.load (Value.int .u32) a h3 fun v_3 =>
 idxS v_1 s0 1 fun a_1 =>
 Lift.load (Value.int .u32) a_1 h3 fun v_4 =>
 iteB (v_3 != v_4) (
 idxS v s0 1 fun a_2 =>
 Lift.load (Value.int .u32) a_2 h3 fun v_5 =>
 idxS v_1 s0 1 fun a_3 =>
 Lift.load (Value.int .u32) a_3 h3 fun v_6 =>
 sE (IntKind.wrap .i64 ((IntKind.wrap .i64 v_5) - (IntKind.wrap .i64 v_6))) h3 fun v_7 h4 =>
 Q v_7 h4
 ) (
 Let (IntKind.wrap .i64 (s0 - 1) : Int) fun i_1 =>
 K0 i_1 h3
 )
 ) (
 Q 0 h3
 )
 ) i h1
 )
def lf (x0 : Sl) (y : Sl) (h : Heap) (Q : Sl → Heap → Prop) : Prop :=
 loop (fun (s0 : Sl × Int × Int) h0 (K0 : (Sl × Int × Int) → Heap → Prop) =>
 iteB (decide (s0.2.2 < (x0.len : Int))) (
 idxS x0 s0.2.2 1 fun a =>
 Lift.load (Value.int .u32) a h0 fun v =>
 Let (IntKind.wrap .u64 ((IntKind.wrap .u64 v) - s0.2.1) : Int) fun d =>
 seq (fun (K0u1 : Int → Heap → Prop) =>
 iteB (decide (s0.2.2 < (y.len : Int))) (
 idxS y s0.2.2 1 fun a_1 =>
 Lift.load (Value.int .u32) a_1 h0 fun v_1 =>
 Let (IntKind.wrap .u64 (d - (IntKind.wrap .u64 v_1)) : Int) fun d_1 =>
 K0u1 d_1 h0
 ) (
 K0u1 d h0
 )
 ) (fun t0 h1 =>
 new [Value.int .u32 (IntKind.wrap .u32 t0)] h1 fun a_2 h2 =>
 aP 1 4 s0.1 (⟨some a_2, 1, 1⟩ : Sl) h2 fun v_3 h3 =>
 Let (Int.fdiv t0 (2 ^ (min (Int.toNat 63) (IntKind.bits .u64))) : Int) fun borrow =>
 K0 (v_3, borrow, IntKind.wrap .i64 (s0.2.2 + 1)) h3
 )
 ) (
 bZ s0.1 h0 fun v_4 h4 =>
 Q v_4 h4
 )
 ) (Sl.nil, 0, 0) h
def oR (x0 : Sl) (y : Sl) (h : Heap) (Q : Sl → Heap → Prop) : Prop :=
 Let (IntKind.wrap .i64 ((x0.len : Int) + (y.len : Int)) : Int) fun t15 =>
 mkS [Value.int .u32 0] 4 t15 t15 h fun v h0 =>
 loop (fun (s0 : Int) h1 (K0 : Int → Heap → Prop) =>
 iteB (decide (s0 < (x0.len : Int))) (
 idxS x0 s0 1 fun a =>
 Lift.load (Value.int .u32) a h1 fun v_1 =>
 loop (fun (s0u1 : Int × Int) h2 (K0u1 : (Int × Int) → Heap → Prop) =>
 iteB (decide (s0u1.2 < (y.len : Int))) (
 idxS y s0u1.2 1 fun a_1 =>
 Lift.load (Value.int .u32) a_1 h2 fun v_2 =>
 idxS v (IntKind.wrap .i64 (s0 + s0u1.2)) 1 fun a_2 =>
 Lift.load (Value.int .u32) a_2 h2 fun v_3 =>
 Let (IntKind.wrap .u64 (s0u1.1 + (IntKind.wrap .u64 ((IntKind.wrap .u64 ((IntKind.wrap .u64 v_1) * (IntKind.wrap .u64 v_2))) + (IntKind.wrap .u64 v_3)))) : Int) fun carry =>
 idxS v (IntKind.wrap .i64 (s0 + s0u1.2)) 1 fun a_3 =>
 Lift.amL a_3 (Value.int .u32 (IntKind.wrap .u32 carry)) h2 fun h3 =>
 Let (Int.fdiv carry (2 ^ (min (Int.toNat 32) (IntKind.bits .u64))) : Int) fun carry_1 =>
 K0u1 (carry_1, IntKind.wrap .i64 (s0u1.2 + 1)) h3
 ) (
 idxS v (IntKind.wrap .i64 (s0 + (y.len : Int))) 1 fun a_4 =>
 Lift.amL a_4 (Value.int .u32 (IntKind.wrap .u32 s0u1.1)) h2 fun h4 =>
 K0 (IntKind.wrap .i64 (s0 + 1)) h4
 )
 ) (0, 0) h1
 ) (
 Q v h1
 )
 ) 0 h0
def qy (x0 : Sl) (k : Int) (h : Heap) (Q : Sl → Heap → Prop) : Prop :=
 Let (IntKind.wrap .i64 ((IntKind.wrap .i64 (Int.tdiv k 32)) + 1) : Int) fun t8 =>
 mkS [Value.int .u32 0] 4 t8 t8 h fun v h0 =>
 (0 ≤ (Int.tmod k 32)) ∧
 idxS v (IntKind.wrap .i64 (Int.tdiv k 32)) 1 fun a =>
 Lift.amL a (Value.int .u32 (IntKind.wrap .u32 (1 * 2 ^ (min (Int.toNat (Int.tmod k 32)) (IntKind.bits .u32))))) h0 fun h1 =>
 oR x0 v h1 fun v_1 h2 =>
 bZ v_1 h2 fun v_2 h3 =>
 Q v_2 h3
def qk (x0 : Sl) (y : Sl) (h : Heap) (Q : Sl → Heap → Prop) : Prop :=
 bZ x0 h fun v h0 =>
 bZ y h0 fun v_1 h1 =>
 iteB ((v.len : Int) == 0) (
 Q v_1 h1
 ) (
 iteB ((v_1.len : Int) == 0) (
 Q v h1
 ) (
 seq (fun (K0 : Unit → Heap → Prop) =>
 kW v h1 fun v_2 h3 =>
 iteB v_2.2 (
 kW v_1 h3 fun v_3 h4 =>
 iteB v_3.2 (
 loop (fun (s0 : Int × Int) h5 (K0u1 : (Int × Int) → Heap → Prop) =>
 iteB (s0.2 != 0) (
 (s0.2 ≠ 0) ∧
 Let (Int.tmod s0.1 s0.2 : Int) fun m0 =>
 K0u1 (s0.2, m0) h5
 ) (
 r6 s0.1 h5 fun v_4 h6 =>
 Q v_4 h6
 )
 ) (v_2.1, v_3.1) h4
 ) (
 K0 () h4
 )
 ) (
 K0 () h3
 )
 ) (fun t0 h2 =>
 mQ v h2 fun v_5 h7 =>
 mQ v_1 h7 fun v_6 h8 =>
 loop (fun (s0u1 : Sl × Sl) h9 (K0u2 : (Sl × Sl) → Heap → Prop) =>
 ni s0u1.1 s0u1.2 h9 fun v_7 h10 =>
 iteB (v_7 != 0) (
 seq (fun (K0u3 : (Sl × Sl) → Heap → Prop) =>
 ni s0u1.1 s0u1.2 h10 fun v_8 h12 =>
 iteB (decide (v_8 < 0)) (
 K0u3 (s0u1.2, s0u1.1) h12
 ) (
 K0u3 s0u1 h12
 )
 ) (fun t0u1 h11 =>
 lf t0u1.1 t0u1.2 h11 fun v_9 h13 =>
 mQ v_9 h13 fun v_10 h14 =>
 K0u2 (v_10.1, t0u1.2) h14
 )
 ) (
 qy s0u1.1 (if v_6.2 < v_5.2 then v_6.2 else v_5.2) h10 fun v_11 h15 =>
 Q v_11 h15
 )
 ) (v_5.1, v_6.1) h8
 )
 )
 )
def dH (b : (Option Addr)) (x0 : Sl) (h : Heap) (Q : Sl → Heap → Prop) : Prop :=
 bZ x0 h fun v h0 =>
 seq (fun (K0 : Unit → Heap → Prop) =>
 ah b fun a =>
 Lift.load Value.bool (a.add 1) h0 fun v_1 =>
 iteB v_1 (
 ah b fun a_1 =>
 Lift.amL (a_1.add 1) (Value.bool true) h0 fun h2 =>
 K0 () h2
 ) (
 ah b fun a_2 =>
 Lift.load (Value.int .i64) (a_2.add 0) h0 fun v_2 =>
 ah b fun a_3 =>
 Lift.amL (a_3.add 1) (Value.bool (decide ((v.len : Int) > v_2))) h0 fun h3 =>
 K0 () h3
 )
 ) (fun t0 h1 =>
 ah b fun a_4 =>
 Lift.load Value.bool (a_4.add 1) h1 fun v_3 =>
 iteB v_3 (
 Q Sl.nil h1
 ) (
 bU v h1 fun v_4 h4 =>
 Q v_4 h4
 )
 )
def gX (b : (Option Addr)) (x0 : Sl) (y : Sl) (h : Heap) (Q : Sl → Heap → Prop) : Prop :=
 qk x0 y h fun v h0 =>
 dH b v h0 fun v_1 h1 =>
 Q v_1 h1
def bq (x0 : Bool × Sl × Sl) (h : Heap) (Q : Bool → Heap → Prop) : Prop :=
 mem h fun h0 =>
 seq (fun (K0 : Bool → Heap → Prop) =>
 qa x0.2.1 h0 fun v h2 =>
 iteB (!v) (
 K0 true h2
 ) (
 qa x0.2.2 h2 fun v_1 h3 =>
 iteB (!v_1) (
 K0 true h3
 ) (
 jv x0.2.2 h3 fun v_2 h4 =>
 K0 v_2 h4
 )
 )
 ) (fun t0 h1 =>
 iteB t0 (
 Q false h1
 ) (
 iteB ((x0.2.1.len : Int) == 0) (
 seq (fun (K0u1 : Bool → Heap → Prop) =>
 iteB (!x0.1) (
 K0u1 ((x0.2.2.len : Int) == 0) h1
 ) (
 K0u1 false h1
 )
 ) (fun t0u1 h5 =>
 Q t0u1 h5
 )
 ) (
 i5 h1 fun v_3 h6 =>
 gE x0 h6 fun v_4 h7 =>
 gX v_3 x0.2.1 v_4 h7 fun v_5 h8 =>
 jv v_5 h8 fun v_6 h9 =>
 Q v_6 h9
 )
 )
 )
def gf (in0 : (Option Addr)) (h : Heap) (Q : (Bool × Sl × Sl) → Heap → Prop) : Prop :=
 mem h fun h0 =>
 gF in0 h0 fun v h1 =>
 b8 in0 4 in0 h1 fun v_1 h2 =>
 b8 in0 4 in0 h2 fun v_2 h3 =>
 seq (fun (K0 : Bool → Heap → Prop) =>
 ah in0 fun a =>
 Lift.load Value.bool (a.add 1) h3 fun v_3 =>
 iteB v_3 (
 K0 true h3
 ) (
 bq (v, v_1, v_2) h3 fun v_4 h5 =>
 K0 (!v_4) h5
 )
 ) (fun t0 h4 =>
 iteB t0 (
 i4 in0 h4 fun v_5 h6 =>
 Q (false, Sl.nil, Sl.nil) h6
 ) (
 Q (v, v_1, v_2) h4
 )
 )
def nI (i : (Option Addr)) (h : Heap) (Q : (Int × Bool × Sl × Sl) → Heap → Prop) : Prop :=
 mem h fun h0 =>
 aR i h0 fun v h1 =>
 gf i h1 fun v_1 h2 =>
 Q (v, v_1.1, v_1.2.1, v_1.2.2) h2
def eL (in0 : (Option Addr)) (least : Int) (take_b : (Option Addr)) (h : Heap) (Q : Sl → Heap → Prop) : Prop :=
 bI in0 least h fun v h0 =>
 loop (fun (s0 : Sl × Int) h1 (K0 : (Sl × Int) → Heap → Prop) =>
 iteB (decide (s0.2 < v)) (
 nI take_b h1 fun v_1 h2 =>
 new [Value.int .i64 v_1.1, Value.bool v_1.2.1, Sl.toV v_1.2.2.1, Sl.toV v_1.2.2.2] h2 fun a h3 =>
 aP 4 64 s0.1 (⟨some a, 1, 1⟩ : Sl) h3 fun v_3 h4 =>
 ah in0 fun a_1 =>
 Lift.load Value.bool (a_1.add 1) h4 fun v_4 =>
 iteB v_4 (
 Q Sl.nil h4
 ) (
 K0 (v_3, IntKind.wrap .i64 (s0.2 + 1)) h4
 )
 ) (
 Q s0.1 h1
 )
 ) (Sl.nil, 0) h0
def mZ (i : (Option Addr)) (h : Heap) (Q : (Bool × Sl × Sl × Sl) → Heap → Prop) : Prop :=
 mem h fun h0 =>
 gf i h0 fun v h1 =>
 eL i 25 i h1 fun v_1 h2 =>
 Q (v.1, v.2.1, v.2.2, v_1) h2
def eY (in0 : (Option Addr)) (least : Int) (take_b : (Option Addr)) (h : Heap) (Q : Sl → Heap → Prop) : Prop :=
 bI in0 least h fun v h0 =>
 loop (fun (s0 : Sl × Int) h1 (K0 : (Sl × Int) → Heap → Prop) =>
 iteB (decide (s0.2 < v)) (
 mZ take_b h1 fun v_1 h2 =>
 new [Value.bool v_1.1, Sl.toV v_1.2.1, Sl.toV v_1.2.2.1, Sl.toV v_1.2.2.2] h2 fun a h3 =>
 aP 4 80 s0.1 (⟨some a, 1, 1⟩ : Sl) h3 fun v_3 h4 =>
 ah in0 fun a_1 =>
 Lift.load Value.bool (a_1.add 1) h4 fun v_4 =>
 iteB v_4 (
 Q Sl.nil h4
 ) (
 K0 (v_3, IntKind.wrap .i64 (s0.2 + 1)) h4
 )
 ) (
 Q s0.1 h1
 )
 ) (Sl.nil, 0) h0
def ie (i : (Option Addr)) (h : Heap) (Q : Sl → Heap → Prop) : Prop :=
 mem h fun h0 =>
 eY i 25 i h0 fun v h1 =>
 Q v h1
def gT (in0 : (Option Addr)) (h : Heap) (Q : (Bool × Sl × Sl × Bool × Sl × Sl) → Heap → Prop) : Prop :=
 mem h fun h0 =>
 gf in0 h0 fun v h1 =>
 gf in0 h1 fun v_1 h2 =>
 ah in0 fun a =>
 Lift.load Value.bool (a.add 1) h2 fun v_2 =>
 iteB v_2 (
 Q (false, Sl.nil, Sl.nil, false, Sl.nil, Sl.nil) h2
 ) (
 Q (v.1, v.2.1, v.2.2, v_1.1, v_1.2.1, v_1.2.2) h2
 )
def nM (i : (Option Addr)) (h : Heap) (Q : (Int × Int × Int × Bool × Sl × Sl × Bool × Sl × Sl) → Heap → Prop) : Prop :=
 mem h fun h0 =>
 aR i h0 fun v h1 =>
 aR i h1 fun v_1 h2 =>
 aR i h2 fun v_2 h3 =>
 gT i h3 fun v_3 h4 =>
 Q (v, v_1, v_2, v_3.1, v_3.2.1, v_3.2.2.1, v_3.2.2.2.1, v_3.2.2.2.2.1, v_3.2.2.2.2.2) h4
def cy (in0 : (Option Addr)) (least : Int) (take_b : (Option Addr)) (h : Heap) (Q : Sl → Heap → Prop) : Prop :=
 bI in0 least h fun v h0 =>
 loop (fun (s0 : Sl × Int) h1 (K0 : (Sl × Int) → Heap → Prop) =>
 iteB (decide (s0.2 < v)) (
 nM take_b h1 fun v_1 h2 =>
 new [Value.int .i64 v_1.1, Value.int .i64 v_1.2.1, Value.int .i64 v_1.2.2.1, Value.bool v_1.2.2.2.1, Sl.toV v_1.2.2.2.2.1, Sl.toV v_1.2.2.2.2.2.1, Value.bool v_1.2.2.2.2.2.2.1, Sl.toV v_1.2.2.2.2.2.2.2.1, Sl.toV v_1.2.2.2.2.2.2.2.2] h2 fun a h3 =>
 aP 9 136 s0.1 (⟨some a, 1, 1⟩ : Sl) h3 fun v_3 h4 =>
 ah in0 fun a_1 =>
 Lift.load Value.bool (a_1.add 1) h4 fun v_4 =>
 iteB v_4 (
 Q Sl.nil h4
 ) (
 K0 (v_3, IntKind.wrap .i64 (s0.2 + 1)) h4
 )
 ) (
 Q s0.1 h1
 )
 ) (Sl.nil, 0) h0
def cF (in0 : (Option Addr)) (least : Int) (take_b : (Option Addr)) (h : Heap) (Q : Sl → Heap → Prop) : Prop :=
 bI in0 least h fun v h0 =>
 loop (fun (s0 : Sl × Int) h1 (K0 : (Sl × Int) → Heap → Prop) =>
 iteB (decide (s0.2 < v)) (
 aR take_b h1 fun v_1 h2 =>
 new [Value.int .i64 v_1] h2 fun a h3 =>
 aP 1 8 s0.1 (⟨some a, 1, 1⟩ : Sl) h3 fun v_3 h4 =>
 ah in0 fun a_1 =>
 Lift.load Value.bool (a_1.add 1) h4 fun v_4 =>
 iteB v_4 (
 Q Sl.nil h4
 ) (
 K0 (v_3, IntKind.wrap .i64 (s0.2 + 1)) h4
 )
 ) (
 Q s0.1 h1
 )
 ) (Sl.nil, 0) h0
def dL (i : (Option Addr)) (h : Heap) (Q : Sl → Heap → Prop) : Prop :=
 mem h fun h0 =>
 cF i 8 i h0 fun v h1 =>
 Q v h1
def ci (in0 : (Option Addr)) (least : Int) (take_b : (Option Addr)) (h : Heap) (Q : Sl → Heap → Prop) : Prop :=
 bI in0 least h fun v h0 =>
 loop (fun (s0 : Sl × Int) h1 (K0 : (Sl × Int) → Heap → Prop) =>
 iteB (decide (s0.2 < v)) (
 dL take_b h1 fun v_1 h2 =>
 new [Sl.toV v_1] h2 fun a h3 =>
 aP 1 24 s0.1 (⟨some a, 1, 1⟩ : Sl) h3 fun v_3 h4 =>
 ah in0 fun a_1 =>
 Lift.load Value.bool (a_1.add 1) h4 fun v_4 =>
 iteB v_4 (
 Q Sl.nil h4
 ) (
 K0 (v_3, IntKind.wrap .i64 (s0.2 + 1)) h4
 )
 ) (
 Q s0.1 h1
 )
 ) (Sl.nil, 0) h0
def kq (i : (Option Addr)) (h : Heap) (Q : (Int × Int × Sl × Sl × Sl × Sl × Sl) → Heap → Prop) : Prop :=
 mem h fun h0 =>
 seq (fun (K0 : (Int × Int × Sl × Sl × Sl × Sl × Sl) → Heap → Prop) =>
 mem h0 fun h2 =>
 aR i h2 fun v_3 h9 =>
 mem h9 fun h10 =>
 aR i h10 fun v_4 h11 =>
 mem h11 fun h12 =>
 K0 (v_3, v_4, Sl.nil, Sl.nil, Sl.nil, Sl.nil, Sl.nil) h12
 ) (fun t0 h1 =>
 ie i h1 fun v_5 h13 =>
 cy i 58 i h13 fun v_6 h14 =>
 ci i 8 i h14 fun v_7 h15 =>
 dL i h15 fun v_8 h16 =>
 ie i h16 fun v_9 h17 =>
 Q (t0.1, t0.2.1, v_5, v_6, v_7, v_8, v_9) h17
 )
def lp (i : (Option Addr)) (h : Heap) (Q : (Sl × Bool × Int) → Heap → Prop) : Prop :=
 mem h fun h0 =>
 dL i h0 fun v h1 =>
 gF i h1 fun v_1 h2 =>
 aR i h2 fun v_2 h3 =>
 Q (v, v_1, v_2) h3
def b6 (in0 : (Option Addr)) (least : Int) (take_b : (Option Addr)) (h : Heap) (Q : Sl → Heap → Prop) : Prop :=
 bI in0 least h fun v h0 =>
 loop (fun (s0 : Sl × Int) h1 (K0 : (Sl × Int) → Heap → Prop) =>
 iteB (decide (s0.2 < v)) (
 lp take_b h1 fun v_1 h2 =>
 new [Sl.toV v_1.1, Value.bool v_1.2.1, Value.int .i64 v_1.2.2] h2 fun a h3 =>
 aP 3 40 s0.1 (⟨some a, 1, 1⟩ : Sl) h3 fun v_3 h4 =>
 ah in0 fun a_1 =>
 Lift.load Value.bool (a_1.add 1) h4 fun v_4 =>
 iteB v_4 (
 Q Sl.nil h4
 ) (
 K0 (v_3, IntKind.wrap .i64 (s0.2 + 1)) h4
 )
 ) (
 Q s0.1 h1
 )
 ) (Sl.nil, 0) h0
def kV (i : (Option Addr)) (h : Heap) (Q : (Sl × Sl × Sl × Sl × Sl × Sl × Sl × Int) → Heap → Prop) : Prop :=
 mem h fun h0 =>
 new [Sl.toV Sl.nil, Sl.toV Sl.nil, Sl.toV Sl.nil, Sl.toV Sl.nil, Sl.toV Sl.nil, Sl.toV Sl.nil, Sl.toV Sl.nil, Value.int .i64 0] h0 fun s0 h1 =>
 b6 i 17 i h1 fun v h2 =>
 Lift.amL (s0.add 0) (Sl.toV v) h2 fun h3 =>
 ci i 8 i h3 fun v_1 h4 =>
 Lift.amL (s0.add 1) (Sl.toV v_1) h4 fun h5 =>
 loop (fun (s0u1 : Int) h6 (K0 : Int → Heap → Prop) =>
 iteB (decide (s0u1 < 5)) (
 idxV Value.pointer [Value.pointer (some (s0.add 2)), Value.pointer (some (s0.add 3)), Value.pointer (some (s0.add 4)), Value.pointer (some (s0.add 5)), Value.pointer (some (s0.add 6))] 5 s0u1 1 fun v_2 =>
 dL i h6 fun v_3 h7 =>
 ah v_2 fun a =>
 Lift.amL a (Sl.toV v_3) h7 fun h8 =>
 K0 (IntKind.wrap .i64 (s0u1 + 1)) h8
 ) (
 aR i h6 fun v_4 h9 =>
 Lift.amL (s0.add 7) (Value.int .i64 v_4) h9 fun h10 =>
 cg ag 8 s0 h10 fun v_5 =>
 dk s0 [Sl.toV v_5.1, Sl.toV v_5.2.1, Sl.toV v_5.2.2.1, Sl.toV v_5.2.2.2.1, Sl.toV v_5.2.2.2.2.1, Sl.toV v_5.2.2.2.2.2.1, Sl.toV v_5.2.2.2.2.2.2.1, Value.int .i64 v_5.2.2.2.2.2.2.2] h10 fun h11 =>
 cg ag 8 s0 h11 fun r =>
 Q r h11
 )
 ) 0 h5
def cj (in0 : (Option Addr)) (least : Int) (take_b : (Option Addr)) (h : Heap) (Q : Sl → Heap → Prop) : Prop :=
 bI in0 least h fun v h0 =>
 loop (fun (s0 : Sl × Int) h1 (K0 : (Sl × Int) → Heap → Prop) =>
 iteB (decide (s0.2 < v)) (
 gT take_b h1 fun v_1 h2 =>
 new [Value.bool v_1.1, Sl.toV v_1.2.1, Sl.toV v_1.2.2.1, Value.bool v_1.2.2.2.1, Sl.toV v_1.2.2.2.2.1, Sl.toV v_1.2.2.2.2.2] h2 fun a h3 =>
 aP 6 112 s0.1 (⟨some a, 1, 1⟩ : Sl) h3 fun v_3 h4 =>
 ah in0 fun a_1 =>
 Lift.load Value.bool (a_1.add 1) h4 fun v_4 =>
 iteB v_4 (
 Q Sl.nil h4
 ) (
 K0 (v_3, IntKind.wrap .i64 (s0.2 + 1)) h4
 )
 ) (
 Q s0.1 h1
 )
 ) (Sl.nil, 0) h0
def kK (i : (Option Addr)) (h : Heap) (Q : (Int × Bool × Sl × Sl × Bool × Sl × Sl) → Heap → Prop) : Prop :=
 mem h fun h0 =>
 aR i h0 fun v h1 =>
 gT i h1 fun v_1 h2 =>
 Q (v, v_1.1, v_1.2.1, v_1.2.2.1, v_1.2.2.2.1, v_1.2.2.2.2.1, v_1.2.2.2.2.2) h2
def bJ (in0 : (Option Addr)) (least : Int) (take_b : (Option Addr)) (h : Heap) (Q : Sl → Heap → Prop) : Prop :=
 bI in0 least h fun v h0 =>
 loop (fun (s0 : Sl × Int) h1 (K0 : (Sl × Int) → Heap → Prop) =>
 iteB (decide (s0.2 < v)) (
 kK take_b h1 fun v_1 h2 =>
 new [Value.int .i64 v_1.1, Value.bool v_1.2.1, Sl.toV v_1.2.2.1, Sl.toV v_1.2.2.2.1, Value.bool v_1.2.2.2.2.1, Sl.toV v_1.2.2.2.2.2.1, Sl.toV v_1.2.2.2.2.2.2] h2 fun a h3 =>
 aP 7 120 s0.1 (⟨some a, 1, 1⟩ : Sl) h3 fun v_3 h4 =>
 ah in0 fun a_1 =>
 Lift.load Value.bool (a_1.add 1) h4 fun v_4 =>
 iteB v_4 (
 Q Sl.nil h4
 ) (
 K0 (v_3, IntKind.wrap .i64 (s0.2 + 1)) h4
 )
 ) (
 Q s0.1 h1
 )
 ) (Sl.nil, 0) h0
def mf (i : (Option Addr)) (h : Heap) (Q : (Sl × Sl × Sl × Sl × Sl) → Heap → Prop) : Prop :=
 mem h fun h0 =>
 dL i h0 fun v h1 =>
 ie i h1 fun v_1 h2 =>
 cj i 34 i h2 fun v_2 h3 =>
 bJ i 42 i h3 fun v_3 h4 =>
 bJ i 42 i h4 fun v_4 h5 =>
 Q (v, v_1, v_2, v_3, v_4) h5
def m7 (i : (Option Addr)) (h : Heap) (Q : (Int × Bool × Int × Bool × Sl × Sl × Bool × Sl × Sl × Int) → Heap → Prop) : Prop :=
 mem h fun h0 =>
 aR i h0 fun v h1 =>
 gF i h1 fun v_1 h2 =>
 kK i h2 fun v_2 h3 =>
 aR i h3 fun v_3 h4 =>
 Q (v, v_1, v_2.1, v_2.2.1, v_2.2.2.1, v_2.2.2.2.1, v_2.2.2.2.2.1, v_2.2.2.2.2.2.1, v_2.2.2.2.2.2.2, v_3) h4
def cz (in0 : (Option Addr)) (least : Int) (take_b : (Option Addr)) (h : Heap) (Q : Sl → Heap → Prop) : Prop :=
 bI in0 least h fun v h0 =>
 loop (fun (s0 : Sl × Int) h1 (K0 : (Sl × Int) → Heap → Prop) =>
 iteB (decide (s0.2 < v)) (
 m7 take_b h1 fun v_1 h2 =>
 new [Value.int .i64 v_1.1, Value.bool v_1.2.1, Value.int .i64 v_1.2.2.1, Value.bool v_1.2.2.2.1, Sl.toV v_1.2.2.2.2.1, Sl.toV v_1.2.2.2.2.2.1, Value.bool v_1.2.2.2.2.2.2.1, Sl.toV v_1.2.2.2.2.2.2.2.1, Sl.toV v_1.2.2.2.2.2.2.2.2.1, Value.int .i64 v_1.2.2.2.2.2.2.2.2.2] h2 fun a h3 =>
 aP 10 144 s0.1 (⟨some a, 1, 1⟩ : Sl) h3 fun v_3 h4 =>
 ah in0 fun a_1 =>
 Lift.load Value.bool (a_1.add 1) h4 fun v_4 =>
 iteB v_4 (
 Q Sl.nil h4
 ) (
 K0 (v_3, IntKind.wrap .i64 (s0.2 + 1)) h4
 )
 ) (
 Q s0.1 h1
 )
 ) (Sl.nil, 0) h0
def dG (in0 : (Option Addr)) (least : Int) (take_b : (Option Addr)) (h : Heap) (Q : Sl → Heap → Prop) : Prop :=
 bI in0 least h fun v h0 =>
 loop (fun (s0 : Sl × Int) h1 (K0 : (Sl × Int) → Heap → Prop) =>
 iteB (decide (s0.2 < v)) (
 gF take_b h1 fun v_1 h2 =>
 new [Value.bool v_1] h2 fun a h3 =>
 aP 1 1 s0.1 (⟨some a, 1, 1⟩ : Sl) h3 fun v_3 h4 =>
 ah in0 fun a_1 =>
 Lift.load Value.bool (a_1.add 1) h4 fun v_4 =>
 iteB v_4 (
 Q Sl.nil h4
 ) (
 K0 (v_3, IntKind.wrap .i64 (s0.2 + 1)) h4
 )
 ) (
 Q s0.1 h1
 )
 ) (Sl.nil, 0) h0
def jX (s0 : (Option Addr)) (h : Heap) (Q : ((Option Addr) × (Option Addr) × (Option Addr) × (Option Addr) × (Option Addr) × (Option Addr)) → Heap → Prop) : Prop :=
 mem h fun h0 =>
 ah s0 fun a =>
 ah s0 fun a_1 =>
 ah s0 fun a_2 =>
 ah s0 fun a_3 =>
 ah s0 fun a_4 =>
 ah s0 fun a_5 =>
 Q (some (a.add 27), some (a_1.add 28), some (a_2.add 29), some (a_3.add 30), some (a_4.add 31), some (a_5.add 32)) h0
def jI (i : (Option Addr)) (h : Heap) (Q : (Int × Int × Sl × Sl × Sl × Sl × Sl × Int × Int × Sl × Sl × Sl × Sl × Sl × Sl × Sl × Int × Sl × Sl × Sl × Sl × Sl × Sl × Sl × Sl × Int × Sl × Int × Int × Int × Int × Int × Int) → Heap → Prop) : Prop :=
 mem h fun h0 =>
 new [Value.int .i64 0, Value.int .i64 0, Sl.toV Sl.nil, Sl.toV Sl.nil, Sl.toV Sl.nil, Sl.toV Sl.nil, Sl.toV Sl.nil, Value.int .i64 0, Value.int .i64 0, Sl.toV Sl.nil, Sl.toV Sl.nil, Sl.toV Sl.nil, Sl.toV Sl.nil, Sl.toV Sl.nil, Sl.toV Sl.nil, Sl.toV Sl.nil, Value.int .i64 0, Sl.toV Sl.nil, Sl.toV Sl.nil, Sl.toV Sl.nil, Sl.toV Sl.nil, Sl.toV Sl.nil, Sl.toV Sl.nil, Sl.toV Sl.nil, Sl.toV Sl.nil, Value.int .i64 0, Sl.toV Sl.nil, Value.int .i64 0, Value.int .i64 0, Value.int .i64 0, Value.int .i64 0, Value.int .i64 0, Value.int .i64 0] h0 fun s0 h1 =>
 kq i h1 fun v h2 =>
 dk (s0.add 0) [Value.int .i64 v.1, Value.int .i64 v.2.1, Sl.toV v.2.2.1, Sl.toV v.2.2.2.1, Sl.toV v.2.2.2.2.1, Sl.toV v.2.2.2.2.2.1, Sl.toV v.2.2.2.2.2.2] h2 fun h3 =>
 aR i h3 fun v_1 h4 =>
 aR i h4 fun v_2 h5 =>
 dk (s0.add 7) [Value.int .i64 v_1, Value.int .i64 v_2] h5 fun h6 =>
 kV i h6 fun v_3 h7 =>
 dk (s0.add 9) [Sl.toV v_3.1, Sl.toV v_3.2.1, Sl.toV v_3.2.2.1, Sl.toV v_3.2.2.2.1, Sl.toV v_3.2.2.2.2.1, Sl.toV v_3.2.2.2.2.2.1, Sl.toV v_3.2.2.2.2.2.2.1, Value.int .i64 v_3.2.2.2.2.2.2.2] h7 fun h8 =>
 dL i h8 fun v_4 h9 =>
 dL i h9 fun v_5 h10 =>
 dk (s0.add 17) [Sl.toV v_4, Sl.toV v_5] h10 fun h11 =>
 mf i h11 fun v_6 h12 =>
 dk (s0.add 19) [Sl.toV v_6.1, Sl.toV v_6.2.1, Sl.toV v_6.2.2.1, Sl.toV v_6.2.2.2.1, Sl.toV v_6.2.2.2.2] h12 fun h13 =>
 cz i 59 i h13 fun v_7 h14 =>
 Lift.amL (s0.add 24) (Sl.toV v_7) h14 fun h15 =>
 aR i h15 fun v_8 h16 =>
 Lift.amL (s0.add 25) (Value.int .i64 v_8) h16 fun h17 =>
 dG i 1 i h17 fun v_9 h18 =>
 Lift.amL (s0.add 26) (Sl.toV v_9) h18 fun h19 =>
 jX (some s0) h19 fun v_10 h20 =>
 loop (fun (s0u1 : Int) h21 (K0 : Int → Heap → Prop) =>
 iteB (decide (s0u1 < 6)) (
 idxV Value.pointer [Value.pointer v_10.1, Value.pointer v_10.2.1, Value.pointer v_10.2.2.1, Value.pointer v_10.2.2.2.1, Value.pointer v_10.2.2.2.2.1, Value.pointer v_10.2.2.2.2.2] 6 s0u1 1 fun v_11 =>
 aR i h21 fun v_12 h22 =>
 ah v_11 fun a =>
 Lift.amL a (Value.int .i64 v_12) h22 fun h23 =>
 K0 (IntKind.wrap .i64 (s0u1 + 1)) h23
 ) (
 cg ae 33 s0 h21 fun v_13 =>
 dk s0 [Value.int .i64 v_13.1, Value.int .i64 v_13.2.1, Sl.toV v_13.2.2.1, Sl.toV v_13.2.2.2.1, Sl.toV v_13.2.2.2.2.1, Sl.toV v_13.2.2.2.2.2.1, Sl.toV v_13.2.2.2.2.2.2.1, Value.int .i64 v_13.2.2.2.2.2.2.2.1, Value.int .i64 v_13.2.2.2.2.2.2.2.2.1, Sl.toV v_13.2.2.2.2.2.2.2.2.2.1, Sl.toV v_13.2.2.2.2.2.2.2.2.2.2.1, Sl.toV v_13.2.2.2.2.2.2.2.2.2.2.2.1, Sl.toV v_13.2.2.2.2.2.2.2.2.2.2.2.2.1, Sl.toV v_13.2.2.2.2.2.2.2.2.2.2.2.2.2.1, Sl.toV v_13.2.2.2.2.2.2.2.2.2.2.2.2.2.2.1, Sl.toV v_13.2.2.2.2.2.2.2.2.2.2.2.2.2.2.2.1, Value.int .i64 v_13.2.2.2.2.2.2.2.2.2.2.2.2.2.2.2.2.1, Sl.toV v_13.2.2.2.2.2.2.2.2.2.2.2.2.2.2.2.2.2.1, Sl.toV v_13.2.2.2.2.2.2.2.2.2.2.2.2.2.2.2.2.2.2.1, Sl.toV v_13.2.2.2.2.2.2.2.2.2.2.2.2.2.2.2.2.2.2.2.1, Sl.toV v_13.2.2.2.2.2.2.2.2.2.2.2.2.2.2.2.2.2.2.2.2.1, Sl.toV v_13.2.2.2.2.2.2.2.2.2.2.2.2.2.2.2.2.2.2.2.2.2.1, Sl.toV v_13.2.2.2.2.2.2.2.2.2.2.2.2.2.2.2.2.2.2.2.2.2.2.1, Sl.toV v_13.2.2.2.2.2.2.2.2.2.2.2.2.2.2.2.2.2.2.2.2.2.2.2.1, Sl.toV v_13.2.2.2.2.2.2.2.2.2.2.2.2.2.2.2.2.2.2.2.2.2.2.2.2.1, Value.int .i64 v_13.2.2.2.2.2.2.2.2.2.2.2.2.2.2.2.2.2.2.2.2.2.2.2.2.2.1, Sl.toV v_13.2.2.2.2.2.2.2.2.2.2.2.2.2.2.2.2.2.2.2.2.2.2.2.2.2.2.1, Value.int .i64 v_13.2.2.2.2.2.2.2.2.2.2.2.2.2.2.2.2.2.2.2.2.2.2.2.2.2.2.2.1, Value.int .i64 v_13.2.2.2.2.2.2.2.2.2.2.2.2.2.2.2.2.2.2.2.2.2.2.2.2.2.2.2.2.1, Value.int .i64 v_13.2.2.2.2.2.2.2.2.2.2.2.2.2.2.2.2.2.2.2.2.2.2.2.2.2.2.2.2.2.1, Value.int .i64 v_13.2.2.2.2.2.2.2.2.2.2.2.2.2.2.2.2.2.2.2.2.2.2.2.2.2.2.2.2.2.2.1, Value.int .i64 v_13.2.2.2.2.2.2.2.2.2.2.2.2.2.2.2.2.2.2.2.2.2.2.2.2.2.2.2.2.2.2.2.1, Value.int .i64 v_13.2.2.2.2.2.2.2.2.2.2.2.2.2.2.2.2.2.2.2.2.2.2.2.2.2.2.2.2.2.2.2.2] h21 fun h24 =>
 cg ae 33 s0 h24 fun r =>
 Q r h24
 )
 ) 0 h20
def lM (in0 : (Option Addr)) (h : Heap) (Q : Int → Heap → Prop) : Prop :=
 seq (fun (K0 : Bool → Heap → Prop) =>
 ah in0 fun a =>
 Lift.load Value.bool (a.add 1) h fun v =>
 iteB v (
 K0 true h
 ) (
 ah in0 fun a_1 =>
 Lift.load Sl.toV (a_1.add 0) h fun v_1 =>
 K0 (decide ((v_1.len : Int) > 0)) h
 )
 ) (fun t0 h0 =>
 iteB t0 (
 Q 3 h0
 ) (
 Q 0 h0
 )
 )
def iU (x0 : Bool × Sl × Sl) (h : Heap) (Q : Int → Heap → Prop) : Prop :=
 mem h fun h0 =>
 iteB ((x0.2.1.len : Int) == 0) (
 Q 0 h0
 ) (
 iteB x0.1 (
 Q (-1) h0
 ) (
 Q 1 h0
 )
 )
def iZ (p : Bool × Sl × Sl × Sl) (h : Heap) (Q : Bool → Heap → Prop) : Prop :=
 mem h fun h0 =>
 loop (fun (s0 : Int × Int) h1 (K0 : (Int × Int) → Heap → Prop) =>
 iteB (decide (s0.2 < (p.2.2.2.len : Int))) (
 idxS p.2.2.2 s0.2 4 fun a =>
 cg bd 4 a h1 fun v =>
 mem h1 fun h2 =>
 seq (fun (K0u1 : Bool → Heap → Prop) =>
 iteB (decide (v.1 ≤ s0.1)) (
 K0u1 true h2
 ) (
 iU (v.2.1, v.2.2.1, v.2.2.2) h2 fun v_1 h4 =>
 iteB (v_1 == 0) (
 K0u1 true h4
 ) (
 bq (v.2.1, v.2.2.1, v.2.2.2) h4 fun v_2 h5 =>
 K0u1 (!v_2) h5
 )
 )
 ) (fun t0 h3 =>
 iteB t0 (
 Q false h3
 ) (
 K0 (v.1, IntKind.wrap .i64 (s0.2 + 1)) h3
 )
 )
 ) (
 bq (p.1, p.2.1, p.2.2.1) h1 fun v_3 h6 =>
 Q v_3 h6
 )
 ) ((-1), 0) h0
def md (q : Bool × Sl × Sl × Sl) (h : Heap) (Q : Bool → Heap → Prop) : Prop :=
 mem h fun h0 =>
 iZ q h0 fun v h1 =>
 Q (!v) h1
def bW (s0 : Sl) (h : Heap) (Q : Int → Heap → Prop) : Prop :=
 loop (fun (s0u1 : Int) h0 (K0 : Int → Heap → Prop) =>
 iteB (decide (s0u1 < (s0.len : Int))) (
 idxS s0 s0u1 4 fun a =>
 cg cV 4 a h0 fun v =>
 md v h0 fun v_1 h1 =>
 iteB v_1 (
 Q s0u1 h1
 ) (
 K0 (IntKind.wrap .i64 (s0u1 + 1)) h1
 )
 ) (
 Q (-1) h0
 )
 ) 0 h
def bL (s0 : Sl) (h : Heap) (Q : Bool → Heap → Prop) : Prop :=
 bW s0 h fun v h0 =>
 Q (decide (v ≥ 0)) h0
def nO (p : Int × Int × Sl × Sl × Sl × Sl × Sl) (h : Heap) (Q : Bool → Heap → Prop) : Prop :=
 mem h fun h0 =>
 seq (fun (K0 : Bool → Heap → Prop) =>
 iteB ((p.2.2.2.2.2.1.len : Int) == (p.2.2.2.2.2.2.len : Int)) (
 bL p.2.2.2.2.2.2 h0 fun v h2 =>
 K0 (!v) h2
 ) (
 K0 false h0
 )
 ) (fun t0 h1 =>
 Q t0 h1
 )
def iW (l : Int) (c0 : Addr) (h : Heap) (Q : Bool → Heap → Prop) : Prop :=
 seq (fun (K0 : Bool → Heap → Prop) =>
 iteB (l == 0) (
 K0 true h
 ) (
 Lift.load (Value.int .i64) (c0.add 0) h fun v =>
 iteB (decide (l > v)) (
 K0 true h
 ) (
 Lift.load (Value.int .i64) (c0.add 0) h fun v_1 =>
 K0 (decide (l < (IntKind.wrap .i64 (0 - v_1)))) h
 )
 )
 ) (fun t0 h0 =>
 Q t0 h0
 )
def fy (x0 : Int) (h : Heap) (Q : Bool → Heap → Prop) : Prop :=
 seq (fun (K0 : Bool → Heap → Prop) =>
 iteB (decide (x0 < (-1))) (
 K0 true h
 ) (
 K0 (decide (x0 > 1)) h
 )
 ) (fun t0 h0 =>
 Q t0 h0
 )
def dO (n : Int) (h : Heap) (Q : Bool → Heap → Prop) : Prop :=
 seq (fun (K0 : Bool → Heap → Prop) =>
 iteB (decide (n < 0)) (
 K0 true h
 ) (
 K0 (decide (n > 1152921504606846976)) h
 )
 ) (fun t0 h0 =>
 Q t0 h0
 )
def dl (s0 : Sl) (f : FnV) (h : Heap) (Q : Int → Heap → Prop) : Prop :=
 loop (fun (s0u1 : Int) h0 (K0 : Int → Heap → Prop) =>
 iteB (decide (s0u1 < (s0.len : Int))) (
 idxS s0 s0u1 1 fun a =>
 Lift.load (Value.int .i64) a h0 fun v =>
 dyn (fun (K0u1 : Bool → Heap → Prop) =>
 (∃ (dc3u0 : Addr), f = FnV.mk 64 [] [Value.pointer (some dc3u0)] ∧ iW v dc3u0 h0 K0u1) ∨
 (f = FnV.mk 76 [] [] ∧ fy v h0 K0u1) ∨
 (f = FnV.mk 82 [] [] ∧ dO v h0 K0u1)
 ) fun v_1 h1 =>
 iteB v_1 (
 Q s0u1 h1
 ) (
 K0 (IntKind.wrap .i64 (s0u1 + 1)) h1
 )
 ) (
 Q (-1) h0
 )
 ) 0 h
def dU (s0 : Sl) (f : FnV) (h : Heap) (Q : Bool → Heap → Prop) : Prop :=
 dl s0 f h fun v h0 =>
 Q (decide (v ≥ 0)) h0
def oy (c : Sl) (c0 : Addr) (h : Heap) (Q : Bool → Heap → Prop) : Prop :=
 Lift.load FnV.toV c0 h fun v =>
 dU c v h fun v_1 h0 =>
 Q v_1 h0
def bY (s0 : Sl) (f_c : Addr) (h : Heap) (Q : Int → Heap → Prop) : Prop :=
 loop (fun (s0u1 : Int) h0 (K0 : Int → Heap → Prop) =>
 iteB (decide (s0u1 < (s0.len : Int))) (
 idxS s0 s0u1 1 fun a =>
 Lift.load Sl.toV a h0 fun v =>
 oy v f_c h0 fun v_1 h1 =>
 iteB v_1 (
 Q s0u1 h1
 ) (
 K0 (IntKind.wrap .i64 (s0u1 + 1)) h1
 )
 ) (
 Q (-1) h0
 )
 ) 0 h
def aB (s0 : Sl) (f_c : Addr) (h : Heap) (Q : Bool → Heap → Prop) : Prop :=
 bY s0 f_c h fun v h0 =>
 Q (decide (v ≥ 0)) h0
def jO (p : Int × Int × Sl × Sl × Sl × Sl × Sl) (h : Heap) (Q : FnV → Heap → Prop) : Prop :=
 new [Value.int .i64 p.1, Value.int .i64 p.2.1, Sl.toV p.2.2.1, Sl.toV p.2.2.2.1, Sl.toV p.2.2.2.2.1, Sl.toV p.2.2.2.2.2.1, Sl.toV p.2.2.2.2.2.2] h fun p_1 h0 =>
 Q (FnV.mk 137 [] [Value.pointer (some p_1)]) h0
def cA (p : Int × Int × Sl × Sl × Sl × Sl × Sl) (h : Heap) (Q : FnV → Heap → Prop) : Prop :=
 new [Value.int .i64 p.1, Value.int .i64 p.2.1, Sl.toV p.2.2.1, Sl.toV p.2.2.2.1, Sl.toV p.2.2.2.2.1, Sl.toV p.2.2.2.2.2.1, Sl.toV p.2.2.2.2.2.2] h fun p_1 h0 =>
 newM h0 fun v h1 =>
 new [Value.map none] h1 fun seen h2 =>
 Lift.amL seen (Value.map v) h2 fun h3 =>
 Q (FnV.mk 138 [] [Value.pointer (some p_1), Value.pointer (some seen)]) h3
def oJ (q : Bool × Sl × Sl × Sl) (c0 : Addr) (h : Heap) (Q : Bool → Heap → Prop) : Prop :=
 mem h fun h0 =>
 seq (fun (K0 : Bool → Heap → Prop) =>
 iZ q h0 fun v h2 =>
 iteB v (
 iteB (decide ((q.2.2.2.len : Int) > 1)) (
 iU (q.1, q.2.1, q.2.2.1) h2 fun v_1 h3 =>
 iteB (v_1 == 0) (
 idxS q.2.2.2 (IntKind.wrap .i64 ((q.2.2.2.len : Int) - 1)) 4 fun a =>
 Lift.load (Value.int .i64) (a.add 0) h3 fun v_2 =>
 Lift.load (Value.int .i64) (c0.add 1) h3 fun v_3 =>
 K0 (decide (v_2 < v_3)) h3
 ) (
 K0 false h3
 )
 ) (
 K0 false h2
 )
 ) (
 K0 false h2
 )
 ) (fun t0 h1 =>
 Q t0 h1
 )
def lJ (q : Bool × Sl × Sl × Sl) (c0 : Addr) (h : Heap) (Q : Bool → Heap → Prop) : Prop :=
 mem h fun h0 =>
 Lift.load FnV.toV c0 h0 fun v =>
 dyn (fun (K0 : Bool → Heap → Prop) =>
 (∃ (dc1u0 : Addr), v = FnV.mk 137 [] [Value.pointer (some dc1u0)] ∧ oJ q dc1u0 h0 K0)
 ) fun v_1 h1 =>
 Q (!v_1) h1
def aT (s0 : Sl) (f_c : Addr) (h : Heap) (Q : Int → Heap → Prop) : Prop :=
 loop (fun (s0u1 : Int) h0 (K0 : Int → Heap → Prop) =>
 iteB (decide (s0u1 < (s0.len : Int))) (
 idxS s0 s0u1 4 fun a =>
 cg cV 4 a h0 fun v =>
 lJ v f_c h0 fun v_1 h1 =>
 iteB v_1 (
 Q s0u1 h1
 ) (
 K0 (IntKind.wrap .i64 (s0u1 + 1)) h1
 )
 ) (
 Q (-1) h0
 )
 ) 0 h
def aw (s0 : Sl) (f_c : Addr) (h : Heap) (Q : Bool → Heap → Prop) : Prop :=
 aT s0 f_c h fun v h0 =>
 Q (decide (v ≥ 0)) h0
def ti (n : Int) (h : Heap) (Q : (Bool × Sl × Sl) → Heap → Prop) : Prop :=
 mem h fun h0 =>
 Let (IntKind.wrap .u64 n : Int) fun size =>
 seq (fun (K0 : Int → Heap → Prop) =>
 iteB (decide (n < 0)) (
 Let (IntKind.wrap .u64 (0 - size) : Int) fun size_1 =>
 K0 size_1 h0
 ) (
 K0 size h0
 )
 ) (fun t0 h1 =>
 r6 t0 h1 fun v h2 =>
 Q (decide (n < 0), v, Sl.nil) h2
 )
def eT (b : (Option Addr)) (x0 : Sl) (y : Sl) (h : Heap) (Q : Sl → Heap → Prop) : Prop :=
 bZ x0 h fun v h0 =>
 bZ y h0 fun v_1 h1 =>
 oR v v_1 h1 fun v_2 h2 =>
 dH b v_2 h2 fun v_3 h3 =>
 Q v_3 h3
def qw (x0 : Bool × Sl) (n : Sl) (h : Heap) (Q : (Bool × Sl) → Heap → Prop) : Prop :=
 mem h fun h0 =>
 i5 h0 fun v h1 =>
 eT v x0.2 n h1 fun v_1 h2 =>
 Q (x0.1, v_1) h2
def nC (x0 : Bool × Sl × Sl) (y : Bool × Sl × Sl) (h : Heap) (Q : ((Bool × Sl) × (Bool × Sl)) → Heap → Prop) : Prop :=
 mem h fun h0 =>
 gE y h0 fun v h1 =>
 qw (x0.1, x0.2.1) v h1 fun v_1 h2 =>
 gE x0 h2 fun v_2 h3 =>
 qw (y.1, y.2.1) v_2 h3 fun v_3 h4 =>
 Q (v_1, v_3) h4
def qr (x0 : Sl) (y : Sl) (h : Heap) (Q : Sl → Heap → Prop) : Prop :=
 loop (fun (s0 : Sl × Int × Int) h0 (K0 : (Sl × Int × Int) → Heap → Prop) =>
 iteB (decide (s0.2.2 < (if (y.len : Int) > (x0.len : Int) then (y.len : Int) else (x0.len : Int)))) (
 loop (fun (s0u1 : Int × Int) h1 (K0u1 : (Int × Int) → Heap → Prop) =>
 iteB (decide (s0u1.2 < 2)) (
 seq (fun (K0u2 : Int → Heap → Prop) =>
 idxV Sl.toV [Sl.toV x0, Sl.toV y] 2 s0u1.2 1 fun v =>
 iteB (decide (s0.2.2 < (v.len : Int))) (
 idxS v s0.2.2 1 fun a =>
 Lift.load (Value.int .u32) a h1 fun v_1 =>
 Let (IntKind.wrap .u64 (s0u1.1 + (IntKind.wrap .u64 v_1)) : Int) fun carry =>
 K0u2 carry h1
 ) (
 K0u2 s0u1.1 h1
 )
 ) (fun t0 h2 =>
 K0u1 (t0, IntKind.wrap .i64 (s0u1.2 + 1)) h2
 )
 ) (
 new [Value.int .u32 (IntKind.wrap .u32 s0u1.1)] h1 fun a_1 h3 =>
 aP 1 4 s0.1 (⟨some a_1, 1, 1⟩ : Sl) h3 fun v_3 h4 =>
 Let (Int.fdiv s0u1.1 (2 ^ (min (Int.toNat 32) (IntKind.bits .u64))) : Int) fun carry_1 =>
 K0 (v_3, carry_1, IntKind.wrap .i64 (s0.2.2 + 1)) h4
 )
 ) (s0.2.1, 0) h0
 ) (
 new [Value.int .u32 (IntKind.wrap .u32 s0.2.1)] h0 fun a_2 h5 =>
 aP 1 4 s0.1 (⟨some a_2, 1, 1⟩ : Sl) h5 fun v_5 h6 =>
 Q v_5 h6
 )
 ) (Sl.nil, 0, 0) h
def fX (b : (Option Addr)) (x0 : Sl) (y : Sl) (h : Heap) (Q : Sl → Heap → Prop) : Prop :=
 qr x0 y h fun v h0 =>
 dH b v h0 fun v_1 h1 =>
 Q v_1 h1
def gR (b : (Option Addr)) (x0 : Sl) (y : Sl) (h : Heap) (Q : Sl → Heap → Prop) : Prop :=
 ni x0 y h fun v h0 =>
 iteB (decide (v < 0)) (
 Q Sl.nil h0
 ) (
 bZ y h0 fun v_1 h1 =>
 lf x0 v_1 h1 fun v_2 h2 =>
 dH b v_2 h2 fun v_3 h3 =>
 Q v_3 h3
 )
def sF (x0 : Bool × Sl) (y : Bool × Sl) (h : Heap) (Q : (Bool × Sl) → Heap → Prop) : Prop :=
 mem h fun h0 =>
 i5 h0 fun v h1 =>
 iteB (x0.1 == y.1) (
 fX v x0.2 y.2 h1 fun v_1 h2 =>
 Q (x0.1, v_1) h2
 ) (
 ni x0.2 y.2 h1 fun v_2 h3 =>
 iteB (decide (v_2 ≥ 0)) (
 gR v x0.2 y.2 h3 fun v_3 h4 =>
 Q (x0.1, v_3) h4
 ) (
 gR v y.2 x0.2 h3 fun v_4 h5 =>
 Q (y.1, v_4) h5
 )
 )
def j6 (x0 : Bool × Sl × Sl) (y : Bool × Sl × Sl) (h : Heap) (Q : Int → Heap → Prop) : Prop :=
 mem h fun h0 =>
 nC x0 y h0 fun v h1 =>
 mem h1 fun h2 =>
 sF (v.1.1, v.1.2) ((!v.2.1), v.2.2) h2 fun v_1 h3 =>
 mem h3 fun h4 =>
 iteB ((v_1.2.len : Int) == 0) (
 Q 0 h4
 ) (
 iteB v_1.1 (
 Q (-1) h4
 ) (
 Q 1 h4
 )
 )
def i6 (a : Int × Int × Int × Bool × Sl × Sl × Bool × Sl × Sl) (c0 : Addr) (c1 : Addr) (h : Heap) (Q : Bool → Heap → Prop) : Prop :=
 mem h fun h0 =>
 seq (fun (K0 : Bool → Heap → Prop) =>
 iteB (a.2.2.1 == (-1)) (
 iteB (decide (a.2.1 ≥ 0)) (
 Lift.load (Value.int .i64) (c0.add 1) h0 fun v =>
 iteB (decide (a.2.1 < v)) (
 K0 true h0
 ) (
 iteB (decide (a.2.2.1 ≥ 0)) (
 Lift.load Sl.toV (c0.add 2) h0 fun v_1 =>
 iteB (decide (a.2.2.1 < (v_1.len : Int))) (
 Let ((a.2.1 == 0) : Bool) fun over =>
 K0 over h0
 ) (
 K0 false h0
 )
 ) (
 K0 false h0
 )
 )
 ) (
 iteB (decide (a.2.2.1 ≥ 0)) (
 Lift.load Sl.toV (c0.add 2) h0 fun v_2 =>
 iteB (decide (a.2.2.1 < (v_2.len : Int))) (
 Let ((a.2.1 == 0) : Bool) fun over_1 =>
 K0 over_1 h0
 ) (
 K0 false h0
 )
 ) (
 K0 false h0
 )
 )
 ) (
 iteB (decide (a.2.2.1 ≥ 0)) (
 Lift.load Sl.toV (c0.add 2) h0 fun v_3 =>
 iteB (decide (a.2.2.1 < (v_3.len : Int))) (
 Let ((a.2.1 == 0) : Bool) fun over_2 =>
 K0 over_2 h0
 ) (
 K0 false h0
 )
 ) (
 K0 false h0
 )
 )
 ) (fun t0 h1 =>
 seq (fun (K0u1 : Bool → Heap → Prop) =>
 iU (a.2.2.2.2.2.2.1, a.2.2.2.2.2.2.2.1, a.2.2.2.2.2.2.2.2) h1 fun v_4 h3 =>
 iteB (v_4 == 0) (
 K0u1 true h3
 ) (
 ti (-1) h3 fun v_5 h4 =>
 j6 (a.2.2.2.2.2.2.1, a.2.2.2.2.2.2.2.1, a.2.2.2.2.2.2.2.2) v_5 h4 fun v_6 h5 =>
 K0u1 (v_6 == 0) h5
 )
 ) (fun t0u1 h2 =>
 seq (fun (K0u2 : Bool → Heap → Prop) =>
 iteB t0 (
 iteB t0u1 (
 iteB (decide (a.1 ≥ 0)) (
 Lift.load (Value.int .i64) (c0.add 0) h2 fun v_7 =>
 iteB (decide (a.1 < v_7)) (
 Lift.load Value.map c1 h2 fun v_8 =>
 adn .i64 Value.bool false v_8 a.1 h2 fun v_9 =>
 iteB (!v_9.1) (
 bq (a.2.2.2.1, a.2.2.2.2.1, a.2.2.2.2.2.1) h2 fun v_10 h7 =>
 iteB v_10 (
 bq (a.2.2.2.2.2.2.1, a.2.2.2.2.2.2.2.1, a.2.2.2.2.2.2.2.2) h7 fun v_11 h8 =>
 K0u2 v_11 h8
 ) (
 K0u2 false h7
 )
 ) (
 K0u2 false h2
 )
 ) (
 K0u2 false h2
 )
 ) (
 K0u2 false h2
 )
 ) (
 K0u2 false h2
 )
 ) (
 K0u2 false h2
 )
 ) (fun t0u2 h6 =>
 Lift.load Value.map c1 h6 fun v_12 =>
 setM .i64 Value.bool v_12 a.1 true h6 fun h9 =>
 Q t0u2 h9
 )
 )
 )
def oW (a : Int × Int × Int × Bool × Sl × Sl × Bool × Sl × Sl) (c0 : Addr) (h : Heap) (Q : Bool → Heap → Prop) : Prop :=
 mem h fun h0 =>
 Lift.load FnV.toV c0 h0 fun v =>
 dyn (fun (K0 : Bool → Heap → Prop) =>
 (∃ (dc1u0 : Addr) (dc1u1 : Addr), v = FnV.mk 138 [] [Value.pointer (some dc1u0), Value.pointer (some dc1u1)] ∧ i6 a dc1u0 dc1u1 h0 K0)
 ) fun v_1 h1 =>
 Q (!v_1) h1
def aU (s0 : Sl) (f_c : Addr) (h : Heap) (Q : Int → Heap → Prop) : Prop :=
 loop (fun (s0u1 : Int) h0 (K0 : Int → Heap → Prop) =>
 iteB (decide (s0u1 < (s0.len : Int))) (
 idxS s0 s0u1 9 fun a =>
 cg aN 9 a h0 fun v =>
 oW v f_c h0 fun v_1 h1 =>
 iteB v_1 (
 Q s0u1 h1
 ) (
 K0 (IntKind.wrap .i64 (s0u1 + 1)) h1
 )
 ) (
 Q (-1) h0
 )
 ) 0 h
def ar (s0 : Sl) (f_c : Addr) (h : Heap) (Q : Bool → Heap → Prop) : Prop :=
 aU s0 f_c h fun v h0 =>
 Q (decide (v ≥ 0)) h0
def mB (p : Int × Int × Sl × Sl × Sl × Sl × Sl) (h : Heap) (Q : Bool → Heap → Prop) : Prop :=
 new [Value.int .i64 p.1, Value.int .i64 p.2.1, Sl.toV p.2.2.1, Sl.toV p.2.2.2.1, Sl.toV p.2.2.2.2.1, Sl.toV p.2.2.2.2.2.1, Sl.toV p.2.2.2.2.2.2] h fun p_1 h0 =>
 new [Value.nilFunc] h0 fun lost h1 =>
 Lift.amL lost (FnV.toV (FnV.mk 64 [] [Value.pointer (some p_1)])) h1 fun h2 =>
 seq (fun (K0 : Bool → Heap → Prop) =>
 Lift.load (Value.int .i64) (p_1.add 0) h2 fun v =>
 iteB (decide (v < 0)) (
 K0 true h2
 ) (
 Lift.load (Value.int .i64) (p_1.add 1) h2 fun v_1 =>
 iteB (decide (v_1 < 0)) (
 K0 true h2
 ) (
 Lift.load Sl.toV (p_1.add 4) h2 fun v_2 =>
 aB v_2 lost h2 fun v_3 h4 =>
 K0 v_3 h4
 )
 )
 ) (fun t0 h3 =>
 iteB t0 (
 Q false h3
 ) (
 seq (fun (K0u1 : (Addr × Addr) → Heap → Prop) =>
 cg aG 7 p_1 h3 fun v_4 =>
 cg aG 7 p_1 h3 fun v_5 =>
 (
 jO v_4 h3 fun v_6 h6 =>
 (cells? h6 p_1 7 0 = some [Value.int .i64 v_5.1, Value.int .i64 v_5.2.1, Sl.toV v_5.2.2.1, Sl.toV v_5.2.2.2.1, Sl.toV v_5.2.2.2.2.1, Sl.toV v_5.2.2.2.2.2.1, Sl.toV v_5.2.2.2.2.2.2]) ∧
 (
 cA v_5 h6 fun v_7 h7 =>
 (
 new [Value.nilFunc] h7 fun row h8 =>
 new [Value.nilFunc] h8 fun atom h9 =>
 Lift.amL row (FnV.toV v_6) h9 fun h10 =>
 Lift.amL atom (FnV.toV v_7) h10 fun h11 =>
 K0u1 (row, atom) h11
 ) ∧ (
 new [Value.nilFunc] h7 fun atom_1 h12 =>
 new [Value.nilFunc] h12 fun row_1 h13 =>
 Lift.amL row_1 (FnV.toV v_6) h13 fun h14 =>
 Lift.amL atom_1 (FnV.toV v_7) h14 fun h15 =>
 K0u1 (row_1, atom_1) h15
 )
 ) ∧ (
 new [Value.nilFunc] h6 fun row_2 h16 =>
 (cells? h16 p_1 7 0 = some [Value.int .i64 v_5.1, Value.int .i64 v_5.2.1, Sl.toV v_5.2.2.1, Sl.toV v_5.2.2.2.1, Sl.toV v_5.2.2.2.2.1, Sl.toV v_5.2.2.2.2.2.1, Sl.toV v_5.2.2.2.2.2.2]) ∧
 (
 cA v_5 h16 fun v_8 h17 =>
 new [Value.nilFunc] h17 fun atom_2 h18 =>
 Lift.amL row_2 (FnV.toV v_6) h18 fun h19 =>
 Lift.amL atom_2 (FnV.toV v_8) h19 fun h20 =>
 K0u1 (row_2, atom_2) h20
 ) ∧ (
 new [Value.nilFunc] h16 fun atom_3 h21 =>
 (cells? h21 p_1 7 0 = some [Value.int .i64 v_5.1, Value.int .i64 v_5.2.1, Sl.toV v_5.2.2.1, Sl.toV v_5.2.2.2.1, Sl.toV v_5.2.2.2.2.1, Sl.toV v_5.2.2.2.2.2.1, Sl.toV v_5.2.2.2.2.2.2]) ∧
 cA v_5 h21 fun v_9 h22 =>
 Lift.amL row_2 (FnV.toV v_6) h22 fun h23 =>
 Lift.amL atom_3 (FnV.toV v_9) h23 fun h24 =>
 K0u1 (row_2, atom_3) h24
 )
 ) ∧ (
 new [Value.nilFunc] h6 fun atom_4 h25 =>
 (cells? h25 p_1 7 0 = some [Value.int .i64 v_5.1, Value.int .i64 v_5.2.1, Sl.toV v_5.2.2.1, Sl.toV v_5.2.2.2.1, Sl.toV v_5.2.2.2.2.1, Sl.toV v_5.2.2.2.2.2.1, Sl.toV v_5.2.2.2.2.2.2]) ∧
 (
 cA v_5 h25 fun v_10 h26 =>
 new [Value.nilFunc] h26 fun row_3 h27 =>
 Lift.amL row_3 (FnV.toV v_6) h27 fun h28 =>
 Lift.amL atom_4 (FnV.toV v_10) h28 fun h29 =>
 K0u1 (row_3, atom_4) h29
 ) ∧ (
 new [Value.nilFunc] h25 fun row_4 h30 =>
 (cells? h30 p_1 7 0 = some [Value.int .i64 v_5.1, Value.int .i64 v_5.2.1, Sl.toV v_5.2.2.1, Sl.toV v_5.2.2.2.1, Sl.toV v_5.2.2.2.2.1, Sl.toV v_5.2.2.2.2.2.1, Sl.toV v_5.2.2.2.2.2.2]) ∧
 cA v_5 h30 fun v_11 h31 =>
 Lift.amL row_4 (FnV.toV v_6) h31 fun h32 =>
 Lift.amL atom_4 (FnV.toV v_11) h32 fun h33 =>
 K0u1 (row_4, atom_4) h33
 )
 )
 ) ∧ (
 new [Value.nilFunc] h3 fun row_5 h34 =>
 (cells? h34 p_1 7 0 = some [Value.int .i64 v_4.1, Value.int .i64 v_4.2.1, Sl.toV v_4.2.2.1, Sl.toV v_4.2.2.2.1, Sl.toV v_4.2.2.2.2.1, Sl.toV v_4.2.2.2.2.2.1, Sl.toV v_4.2.2.2.2.2.2]) ∧
 (cells? h34 p_1 7 0 = some [Value.int .i64 v_5.1, Value.int .i64 v_5.2.1, Sl.toV v_5.2.2.1, Sl.toV v_5.2.2.2.1, Sl.toV v_5.2.2.2.2.1, Sl.toV v_5.2.2.2.2.2.1, Sl.toV v_5.2.2.2.2.2.2]) ∧
 (
 jO v_4 h34 fun v_12 h35 =>
 (cells? h35 p_1 7 0 = some [Value.int .i64 v_5.1, Value.int .i64 v_5.2.1, Sl.toV v_5.2.2.1, Sl.toV v_5.2.2.2.1, Sl.toV v_5.2.2.2.2.1, Sl.toV v_5.2.2.2.2.2.1, Sl.toV v_5.2.2.2.2.2.2]) ∧
 (
 cA v_5 h35 fun v_13 h36 =>
 new [Value.nilFunc] h36 fun atom_5 h37 =>
 Lift.amL row_5 (FnV.toV v_12) h37 fun h38 =>
 Lift.amL atom_5 (FnV.toV v_13) h38 fun h39 =>
 K0u1 (row_5, atom_5) h39
 ) ∧ (
 new [Value.nilFunc] h35 fun atom_6 h40 =>
 (cells? h40 p_1 7 0 = some [Value.int .i64 v_5.1, Value.int .i64 v_5.2.1, Sl.toV v_5.2.2.1, Sl.toV v_5.2.2.2.1, Sl.toV v_5.2.2.2.2.1, Sl.toV v_5.2.2.2.2.2.1, Sl.toV v_5.2.2.2.2.2.2]) ∧
 cA v_5 h40 fun v_14 h41 =>
 Lift.amL row_5 (FnV.toV v_12) h41 fun h42 =>
 Lift.amL atom_6 (FnV.toV v_14) h42 fun h43 =>
 K0u1 (row_5, atom_6) h43
 )
 ) ∧ (
 new [Value.nilFunc] h34 fun atom_7 h44 =>
 (cells? h44 p_1 7 0 = some [Value.int .i64 v_4.1, Value.int .i64 v_4.2.1, Sl.toV v_4.2.2.1, Sl.toV v_4.2.2.2.1, Sl.toV v_4.2.2.2.2.1, Sl.toV v_4.2.2.2.2.2.1, Sl.toV v_4.2.2.2.2.2.2]) ∧
 (cells? h44 p_1 7 0 = some [Value.int .i64 v_5.1, Value.int .i64 v_5.2.1, Sl.toV v_5.2.2.1, Sl.toV v_5.2.2.2.1, Sl.toV v_5.2.2.2.2.1, Sl.toV v_5.2.2.2.2.2.1, Sl.toV v_5.2.2.2.2.2.2]) ∧
 jO v_4 h44 fun v_15 h45 =>
 (cells? h45 p_1 7 0 = some [Value.int .i64 v_5.1, Value.int .i64 v_5.2.1, Sl.toV v_5.2.2.1, Sl.toV v_5.2.2.2.1, Sl.toV v_5.2.2.2.2.1, Sl.toV v_5.2.2.2.2.2.1, Sl.toV v_5.2.2.2.2.2.2]) ∧
 cA v_5 h45 fun v_16 h46 =>
 Lift.amL row_5 (FnV.toV v_15) h46 fun h47 =>
 Lift.amL atom_7 (FnV.toV v_16) h47 fun h48 =>
 K0u1 (row_5, atom_7) h48
 )
 ) ∧ (
 new [Value.nilFunc] h3 fun atom_8 h49 =>
 (cells? h49 p_1 7 0 = some [Value.int .i64 v_4.1, Value.int .i64 v_4.2.1, Sl.toV v_4.2.2.1, Sl.toV v_4.2.2.2.1, Sl.toV v_4.2.2.2.2.1, Sl.toV v_4.2.2.2.2.2.1, Sl.toV v_4.2.2.2.2.2.2]) ∧
 (cells? h49 p_1 7 0 = some [Value.int .i64 v_5.1, Value.int .i64 v_5.2.1, Sl.toV v_5.2.2.1, Sl.toV v_5.2.2.2.1, Sl.toV v_5.2.2.2.2.1, Sl.toV v_5.2.2.2.2.2.1, Sl.toV v_5.2.2.2.2.2.2]) ∧
 (
 jO v_4 h49 fun v_17 h50 =>
 (cells? h50 p_1 7 0 = some [Value.int .i64 v_5.1, Value.int .i64 v_5.2.1, Sl.toV v_5.2.2.1, Sl.toV v_5.2.2.2.1, Sl.toV v_5.2.2.2.2.1, Sl.toV v_5.2.2.2.2.2.1, Sl.toV v_5.2.2.2.2.2.2]) ∧
 (
 cA v_5 h50 fun v_18 h51 =>
 new [Value.nilFunc] h51 fun row_6 h52 =>
 Lift.amL row_6 (FnV.toV v_17) h52 fun h53 =>
 Lift.amL atom_8 (FnV.toV v_18) h53 fun h54 =>
 K0u1 (row_6, atom_8) h54
 ) ∧ (
 new [Value.nilFunc] h50 fun row_7 h55 =>
 (cells? h55 p_1 7 0 = some [Value.int .i64 v_5.1, Value.int .i64 v_5.2.1, Sl.toV v_5.2.2.1, Sl.toV v_5.2.2.2.1, Sl.toV v_5.2.2.2.2.1, Sl.toV v_5.2.2.2.2.2.1, Sl.toV v_5.2.2.2.2.2.2]) ∧
 cA v_5 h55 fun v_19 h56 =>
 Lift.amL row_7 (FnV.toV v_17) h56 fun h57 =>
 Lift.amL atom_8 (FnV.toV v_19) h57 fun h58 =>
 K0u1 (row_7, atom_8) h58
 )
 ) ∧ (
 new [Value.nilFunc] h49 fun row_8 h59 =>
 (cells? h59 p_1 7 0 = some [Value.int .i64 v_4.1, Value.int .i64 v_4.2.1, Sl.toV v_4.2.2.1, Sl.toV v_4.2.2.2.1, Sl.toV v_4.2.2.2.2.1, Sl.toV v_4.2.2.2.2.2.1, Sl.toV v_4.2.2.2.2.2.2]) ∧
 (cells? h59 p_1 7 0 = some [Value.int .i64 v_5.1, Value.int .i64 v_5.2.1, Sl.toV v_5.2.2.1, Sl.toV v_5.2.2.2.1, Sl.toV v_5.2.2.2.2.1, Sl.toV v_5.2.2.2.2.2.1, Sl.toV v_5.2.2.2.2.2.2]) ∧
 jO v_4 h59 fun v_20 h60 =>
 (cells? h60 p_1 7 0 = some [Value.int .i64 v_5.1, Value.int .i64 v_5.2.1, Sl.toV v_5.2.2.1, Sl.toV v_5.2.2.2.1, Sl.toV v_5.2.2.2.2.1, Sl.toV v_5.2.2.2.2.2.1, Sl.toV v_5.2.2.2.2.2.2]) ∧
 cA v_5 h60 fun v_21 h61 =>
 Lift.amL row_8 (FnV.toV v_20) h61 fun h62 =>
 Lift.amL atom_8 (FnV.toV v_21) h62 fun h63 =>
 K0u1 (row_8, atom_8) h63
 )
 )
 ) (fun t0u1 h5 =>
 seq (fun (K0u2 : Bool → Heap → Prop) =>
 Lift.load Sl.toV (p_1.add 2) h5 fun v_22 =>
 aw v_22 t0u1.1 h5 fun v_23 h65 =>
 iteB (!v_23) (
 Lift.load Sl.toV (p_1.add 3) h65 fun v_24 =>
 ar v_24 t0u1.2 h65 fun v_25 h66 =>
 K0u2 (!v_25) h66
 ) (
 K0u2 false h65
 )
 ) (fun t0u2 h64 =>
 Q t0u2 h64
 )
 )
 )
 )
def eS (s0 : (Option Addr)) (lit : Int) (h : Heap) (Q : Bool → Heap → Prop) : Prop :=
 seq (fun (K0 : Bool → Heap → Prop) =>
 iteB (lit != 0) (
 ah s0 fun a =>
 Lift.load Sl.toV (a.add 2) h fun v =>
 iteB (decide (lit ≤ (v.len : Int))) (
 ah s0 fun a_1 =>
 Lift.load Sl.toV (a_1.add 2) h fun v_1 =>
 K0 (decide (lit ≥ (IntKind.wrap .i64 (0 - (v_1.len : Int))))) h
 ) (
 K0 false h
 )
 ) (
 K0 false h
 )
 ) (fun t0 h0 =>
 Q t0 h0
 )
def aM (lit : Int) (h : Heap) (Q : Int → Heap → Prop) : Prop :=
 Q (IntKind.wrap .i64 ((if (IntKind.wrap .i64 (0 - lit)) > lit then (IntKind.wrap .i64 (0 - lit)) else lit) - 1)) h
def jB (s0 : (Option Addr)) (lits : Sl) (h : Heap) (Q : Bool → Heap → Prop) : Prop :=
 newM h fun v h0 =>
 loop (fun (s0u1 : Int) h1 (K0 : Int → Heap → Prop) =>
 iteB (decide (s0u1 < (lits.len : Int))) (
 idxS lits s0u1 1 fun a =>
 Lift.load (Value.int .i64) a h1 fun v_1 =>
 seq (fun (K0u1 : Bool → Heap → Prop) =>
 eS s0 v_1 h1 fun v_2 h3 =>
 iteB (!v_2) (
 K0u1 true h3
 ) (
 aM v_1 h3 fun v_3 h4 =>
 adn .i64 Value.bool false v v_3 h4 fun v_4 =>
 K0u1 v_4.1 h4
 )
 ) (fun t0 h2 =>
 iteB t0 (
 Q false h2
 ) (
 aM v_1 h2 fun v_5 h5 =>
 setM .i64 Value.bool v v_5 true h5 fun h6 =>
 K0 (IntKind.wrap .i64 (s0u1 + 1)) h6
 )
 )
 ) (
 Q (decide ((lits.len : Int) > 1)) h1
 )
 ) 0 h0
def oQ (c : Sl × Bool × Int) (c0 : Addr) (h : Heap) (Q : Bool → Heap → Prop) : Prop :=
 mem h fun h0 =>
 seq (fun (K0 : Bool → Heap → Prop) =>
 iteB (decide (c.2.2 < 0)) (
 K0 true h0
 ) (
 jB (some c0) c.1 h0 fun v h2 =>
 K0 (!v) h2
 )
 ) (fun t0 h1 =>
 Q t0 h1
 )
def aJ (s0 : Sl) (f_c : Addr) (h : Heap) (Q : Int → Heap → Prop) : Prop :=
 loop (fun (s0u1 : Int) h0 (K0 : Int → Heap → Prop) =>
 iteB (decide (s0u1 < (s0.len : Int))) (
 idxS s0 s0u1 3 fun a =>
 cg aZ 3 a h0 fun v =>
 oQ v f_c h0 fun v_1 h1 =>
 iteB v_1 (
 Q s0u1 h1
 ) (
 K0 (IntKind.wrap .i64 (s0u1 + 1)) h1
 )
 ) (
 Q (-1) h0
 )
 ) 0 h
def aA (s0 : Sl) (f_c : Addr) (h : Heap) (Q : Bool → Heap → Prop) : Prop :=
 aJ s0 f_c h fun v h0 =>
 Q (decide (v ≥ 0)) h0
def bF (s0 : Sl) (h : Heap) (Q : Int → Heap → Prop) : Prop :=
 loop (fun (s0u1 : Int) h0 (K0 : Int → Heap → Prop) =>
 iteB (decide (s0u1 < (s0.len : Int))) (
 idxS s0 s0u1 1 fun a =>
 Lift.load (Value.int .i64) a h0 fun v =>
 fy v h0 fun v_1 h1 =>
 iteB v_1 (
 Q s0u1 h1
 ) (
 K0 (IntKind.wrap .i64 (s0u1 + 1)) h1
 )
 ) (
 Q (-1) h0
 )
 ) 0 h
def aK (s0 : Sl) (h : Heap) (Q : Bool → Heap → Prop) : Prop :=
 bF s0 h fun v h0 =>
 Q (decide (v ≥ 0)) h0
def fh (lit : Int) (h : Heap) (Q : Int → Heap → Prop) : Prop :=
 iteB (decide (lit > 0)) (
 aM lit h fun v h0 =>
 Q (IntKind.wrap .i64 (2 * v)) h0
 ) (
 aM lit h fun v_1 h1 =>
 Q (IntKind.wrap .i64 ((IntKind.wrap .i64 (2 * v_1)) + 1)) h1
 )
def ia (s0 : (Option Addr)) (h : Heap) (Q : Bool → Heap → Prop) : Prop :=
 newM h fun v h0 =>
 ah s0 fun a =>
 Lift.load Sl.toV (a.add 1) h0 fun v_1 =>
 loop (fun (s0u1 : Int × Int) h1 (K0 : (Int × Int) → Heap → Prop) =>
 iteB (decide (s0u1.2 < (v_1.len : Int))) (
 idxS v_1 s0u1.2 1 fun a_1 =>
 Lift.load Sl.toV a_1 h1 fun v_2 =>
 loop (fun (s0u2 : Int × Int) h2 (K0u1 : (Int × Int) → Heap → Prop) =>
 iteB (decide (s0u2.2 < (v_2.len : Int))) (
 idxS v_2 s0u2.2 1 fun a_2 =>
 Lift.load (Value.int .i64) a_2 h2 fun v_3 =>
 seq (fun (K0u2 : Bool → Heap → Prop) =>
 iteB (decide (v_3 < 0)) (
 K0u2 true h2
 ) (
 ah s0 fun a_3 =>
 Lift.load Sl.toV (a_3.add 0) h2 fun v_4 =>
 K0u2 (decide (v_3 ≥ (v_4.len : Int))) h2
 )
 ) (fun t0 h3 =>
 iteB t0 (
 Q false h3
 ) (
 abb .i64 (Value.int .i64) 0 v (s0u1.2, v_3) h3 fun v_5 =>
 aiO .i64 (Value.int .i64) 0 v (s0u1.2, v_3) h3 fun en h4 =>
 (abb .i64 (Value.int .i64) 0 v (s0u1.2, v_3) h4 fun r_ => r_.1 = v_5.1) ∧
 ahV .i64 (Value.int .i64) v en.2 (IntKind.wrap .i64 (v_5.1 + 1)) h4 fun h5 =>
 Let (IntKind.wrap .i64 (s0u2.1 + 1) : Int) fun n =>
 K0u1 (n, IntKind.wrap .i64 (s0u2.2 + 1)) h5
 )
 )
 ) (
 K0 (s0u2.1, IntKind.wrap .i64 (s0u1.2 + 1)) h2
 )
 ) (s0u1.1, 0) h1
 ) (
 ah s0 fun a_4 =>
 Lift.load Sl.toV (a_4.add 0) h1 fun v_6 =>
 loop (fun (s0u3 : Int) h6 (K0u3 : Int → Heap → Prop) =>
 iteB (decide (s0u3 < (v_6.len : Int))) (
 idxS v_6 s0u3 3 fun a_5 =>
 cg aZ 3 a_5 h6 fun v_7 =>
 mem h6 fun h7 =>
 ki v_7.1 none (some 2) none 1 fun v_8 =>
 loop (fun (s0u4 : Int) h8 (K0u4 : Int → Heap → Prop) =>
 iteB (decide (s0u4 < (v_8.len : Int))) (
 idxS v_8 s0u4 1 fun a_6 =>
 Lift.load (Value.int .i64) a_6 h8 fun v_9 =>
 fh v_9 h8 fun v_10 h9 =>
 abb .i64 (Value.int .i64) 0 v (v_10, s0u3) h9 fun v_11 =>
 iteB (v_11.1 != 1) (
 Q false h9
 ) (
 K0u4 (IntKind.wrap .i64 (s0u4 + 1)) h9
 )
 ) (
 K0u3 (IntKind.wrap .i64 (s0u3 + 1)) h8
 )
 ) 0 h7
 ) (
 ah s0 fun a_7 =>
 Lift.load Sl.toV (a_7.add 0) h6 fun v_12 =>
 Q (s0u1.1 == (IntKind.wrap .i64 (2 * (v_12.len : Int)))) h6
 )
 ) 0 h1
 )
 ) (0, 0) h0
def jH (s0 : (Option Addr)) (lit : Int) (h : Heap) (Q : Int → Heap → Prop) : Prop :=
 eS s0 lit h fun v h0 =>
 iteB (!v) (
 Q (-1) h0
 ) (
 aM lit h0 fun v_1 h1 =>
 Q v_1 h1
 )
def gG (lit : Int) (h : Heap) (Q : Int → Heap → Prop) : Prop :=
 Q (if (-1) > (if 1 < lit then 1 else lit) then (-1) else (if 1 < lit then 1 else lit)) h
def cB (s0 : Sl) (v : Int) (h : Heap) (Q : Int → Heap → Prop) : Prop :=
 loop (fun (s0u1 : Int) h0 (K0 : Int → Heap → Prop) =>
 iteB (decide (s0u1 < (s0.len : Int))) (
 idxS s0 s0u1 1 fun a =>
 Lift.load (Value.int .i64) a h0 fun v_1 =>
 iteB (v == v_1) (
 Q s0u1 h0
 ) (
 K0 (IntKind.wrap .i64 (s0u1 + 1)) h0
 )
 ) (
 Q (-1) h0
 )
 ) 0 h
def aC (s0 : Sl) (v : Int) (h : Heap) (Q : Bool → Heap → Prop) : Prop :=
 cB s0 v h fun v_1 h0 =>
 Q (decide (v_1 ≥ 0)) h0
def gH (s0 : Sl × Sl × Sl × Sl × Sl × Sl × Sl × Int) (lit : Int) (h : Heap) (Q : Int → Heap → Prop) : Prop :=
 new [Sl.toV s0.1, Sl.toV s0.2.1, Sl.toV s0.2.2.1, Sl.toV s0.2.2.2.1, Sl.toV s0.2.2.2.2.1, Sl.toV s0.2.2.2.2.2.1, Sl.toV s0.2.2.2.2.2.2.1, Value.int .i64 s0.2.2.2.2.2.2.2] h fun s0u1 h0 =>
 eS (some s0u1) lit h0 fun v h1 =>
 iteB (!v) (
 Q 0 h1
 ) (
 Lift.load Sl.toV (s0u1.add 2) h1 fun v_1 =>
 aM lit h1 fun v_2 h2 =>
 (cell? h2 (s0u1.add 2) = some (Sl.toV v_1)) ∧
 idxS v_1 v_2 1 fun a =>
 Lift.load (Value.int .i64) a h2 fun v_3 =>
 gG lit h2 fun v_4 h3 =>
 (cell? h3 (s0u1.add 2) = some (Sl.toV v_1)) ∧
 (cell? h3 a = some (Value.int .i64 v_3)) ∧
 Q (IntKind.wrap .i64 (v_3 * v_4)) h3
 )
def gI (s0 : (Option Addr)) (place : (Option Nat)) (h : Heap) (Q : Bool → Heap → Prop) : Prop :=
 ah s0 fun a =>
 Lift.load Sl.toV (a.add 5) h fun v =>
 loop (fun (s0u1 : Int) h0 (K0 : Int → Heap → Prop) =>
 iteB (decide (s0u1 < (v.len : Int))) (
 seq (fun (K0u1 : Unit → Heap → Prop) =>
 idxS v s0u1 1 fun a_1 =>
 Lift.load (Value.int .i64) a_1 h0 fun v_1 =>
 ah s0 fun a_2 =>
 Lift.load Sl.toV (a_2.add 4) h0 fun v_2 =>
 aM v_1 h0 fun v_3 h2 =>
 (cell? h2 (a_2.add 4) = some (Sl.toV v_2)) ∧
 idxS v_2 v_3 1 fun a_3 =>
 Lift.load (Value.int .i64) a_3 h2 fun v_4 =>
 iteB (v_4 == (-1)) (
 K0u1 () h2
 ) (
 seq (fun (K0u2 : Bool → Heap → Prop) =>
 iteB (decide (v_4 < 0)) (
 K0u2 true h2
 ) (
 ah s0 fun a_4 =>
 Lift.load Sl.toV (a_4.add 0) h2 fun v_5 =>
 iteB (decide (v_4 ≥ (v_5.len : Int))) (
 K0u2 true h2
 ) (
 ah s0 fun a_5 =>
 Lift.load Sl.toV (a_5.add 0) h2 fun v_6 =>
 idxS v_6 v_4 3 fun a_6 =>
 Lift.load Sl.toV (a_6.add 0) h2 fun v_7 =>
 aC v_7 v_1 h2 fun v_8 h4 =>
 K0u2 (!v_8) h4
 )
 )
 ) (fun t0u1 h3 =>
 iteB t0u1 (
 Q false h3
 ) (
 ah s0 fun a_7 =>
 Lift.load Sl.toV (a_7.add 0) h3 fun v_9 =>
 idxS v_9 v_4 3 fun a_8 =>
 Lift.load Sl.toV (a_8.add 0) h3 fun v_10 =>
 loop (fun (s0u2 : Int) h5 (K0u3 : Int → Heap → Prop) =>
 iteB (decide (s0u2 < (v_10.len : Int))) (
 idxS v_10 s0u2 1 fun a_9 =>
 Lift.load (Value.int .i64) a_9 h5 fun v_11 =>
 aM v_11 h5 fun v_12 h6 =>
 adn .i64 (Value.int .i64) 0 place v_12 h6 fun v_13 =>
 seq (fun (K0u4 : Bool → Heap → Prop) =>
 iteB (v_11 != v_1) (
 iteB (!v_13.2) (
 K0u4 true h6
 ) (
 iteB (decide (v_13.1 ≥ s0u1)) (
 K0u4 true h6
 ) (
 ah s0 fun a_10 =>
 cg ag 8 a_10 h6 fun v_14 =>
 gH v_14 v_11 h6 fun v_15 h8 =>
 K0u4 (v_15 != (-1)) h8
 )
 )
 ) (
 K0u4 false h6
 )
 ) (fun t0u2 h7 =>
 iteB t0u2 (
 Q false h7
 ) (
 K0u3 (IntKind.wrap .i64 (s0u2 + 1)) h7
 )
 )
 ) (
 K0u1 () h5
 )
 ) 0 h3
 )
 )
 )
 ) (fun t0 h1 =>
 K0 (IntKind.wrap .i64 (s0u1 + 1)) h1
 )
 ) (
 Q true h0
 )
 ) 0 h
def kS (s0 : (Option Addr)) (h : Heap) (Q : Bool → Heap → Prop) : Prop :=
 newM h fun v h0 =>
 ah s0 fun a =>
 Lift.load Sl.toV (a.add 5) h0 fun v_1 =>
 loop (fun (s0u1 : Int × Int) h1 (K0 : (Int × Int) → Heap → Prop) =>
 iteB (decide (s0u1.2 < (v_1.len : Int))) (
 idxS v_1 s0u1.2 1 fun a_1 =>
 Lift.load (Value.int .i64) a_1 h1 fun v_2 =>
 loop (fun (s0u2 : Int) h2 (K0u1 : Int → Heap → Prop) =>
 seq (fun (K0u2 : Bool → Heap → Prop) =>
 ah s0 fun a_2 =>
 Lift.load Sl.toV (a_2.add 6) h2 fun v_3 =>
 iteB (decide (s0u2 < (v_3.len : Int))) (
 ah s0 fun a_3 =>
 Lift.load Sl.toV (a_3.add 6) h2 fun v_4 =>
 idxS v_4 s0u2 1 fun a_4 =>
 Lift.load (Value.int .i64) a_4 h2 fun v_5 =>
 K0u2 (decide (v_5 ≤ s0u1.2)) h2
 ) (
 K0u2 false h2
 )
 ) (fun t0 h3 =>
 iteB t0 (
 Let (IntKind.wrap .i64 (s0u2 + 1) : Int) fun level =>
 K0u1 level h3
 ) (
 jH s0 v_2 h3 fun v_6 h4 =>
 adn .i64 (Value.int .i64) 0 v v_6 h4 fun v_7 =>
 seq (fun (K0u3 : Bool → Heap → Prop) =>
 eS s0 v_2 h4 fun v_8 h6 =>
 iteB (!v_8) (
 K0u3 true h6
 ) (
 iteB v_7.2 (
 K0u3 true h6
 ) (
 ah s0 fun a_5 =>
 Lift.load Sl.toV (a_5.add 2) h6 fun v_9 =>
 aM v_2 h6 fun v_10 h7 =>
 (cell? h7 (a_5.add 2) = some (Sl.toV v_9)) ∧
 idxS v_9 v_10 1 fun a_6 =>
 Lift.load (Value.int .i64) a_6 h7 fun v_11 =>
 gG v_2 h7 fun v_12 h8 =>
 (cell? h8 (a_5.add 2) = some (Sl.toV v_9)) ∧
 (cell? h8 a_6 = some (Value.int .i64 v_11)) ∧
 iteB (v_11 != v_12) (
 K0u3 true h8
 ) (
 ah s0 fun a_7 =>
 Lift.load Sl.toV (a_7.add 3) h8 fun v_13 =>
 aM v_2 h8 fun v_14 h9 =>
 (cell? h9 (a_7.add 3) = some (Sl.toV v_13)) ∧
 idxS v_13 v_14 1 fun a_8 =>
 Lift.load (Value.int .i64) a_8 h9 fun v_15 =>
 K0u3 (v_15 != s0u2) h9
 )
 )
 )
 ) (fun t0u1 h5 =>
 iteB t0u1 (
 Q false h5
 ) (
 aM v_2 h5 fun v_16 h10 =>
 setM .i64 (Value.int .i64) v v_16 s0u1.2 h10 fun h11 =>
 K0 (s0u2, IntKind.wrap .i64 (s0u1.2 + 1)) h11
 )
 )
 )
 )
 ) s0u1.1 h1
 ) (
 ah s0 fun a_9 =>
 Lift.load Sl.toV (a_9.add 2) h1 fun v_17 =>
 loop (fun (s0u3 : Int) h12 (K0u4 : Int → Heap → Prop) =>
 iteB (decide (s0u3 < (v_17.len : Int))) (
 adn .i64 (Value.int .i64) 0 v s0u3 h12 fun v_18 =>
 seq (fun (K0u5 : Bool → Heap → Prop) =>
 iteB (!v_18.2) (
 ah s0 fun a_10 =>
 Lift.load Sl.toV (a_10.add 2) h12 fun v_19 =>
 idxS v_19 s0u3 1 fun a_11 =>
 Lift.load (Value.int .i64) a_11 h12 fun v_20 =>
 iteB (v_20 != 0) (
 K0u5 true h12
 ) (
 ah s0 fun a_12 =>
 Lift.load Sl.toV (a_12.add 3) h12 fun v_21 =>
 idxS v_21 s0u3 1 fun a_13 =>
 Lift.load (Value.int .i64) a_13 h12 fun v_22 =>
 iteB (v_22 != 0) (
 K0u5 true h12
 ) (
 ah s0 fun a_14 =>
 Lift.load Sl.toV (a_14.add 4) h12 fun v_23 =>
 idxS v_23 s0u3 1 fun a_15 =>
 Lift.load (Value.int .i64) a_15 h12 fun v_24 =>
 K0u5 (v_24 != (-1)) h12
 )
 )
 ) (
 K0u5 false h12
 )
 ) (fun t0u2 h13 =>
 iteB t0u2 (
 Q false h13
 ) (
 K0u4 (IntKind.wrap .i64 (s0u3 + 1)) h13
 )
 )
 ) (
 gI s0 v h12 fun v_25 h14 =>
 Q v_25 h14
 )
 ) 0 h1
 )
 ) (0, 0) h0
def mY (s0 : (Option Addr)) (h : Heap) (Q : Bool → Heap → Prop) : Prop :=
 ah s0 fun a =>
 Lift.load Sl.toV (a.add 6) h fun v =>
 loop (fun (s0u1 : Int) h0 (K0 : Int → Heap → Prop) =>
 iteB (decide (s0u1 < (v.len : Int))) (
 idxS v s0u1 1 fun a_1 =>
 Lift.load (Value.int .i64) a_1 h0 fun v_1 =>
 seq (fun (K0u1 : Bool → Heap → Prop) =>
 iteB (decide (v_1 < 0)) (
 K0u1 true h0
 ) (
 ah s0 fun a_2 =>
 Lift.load Sl.toV (a_2.add 5) h0 fun v_2 =>
 iteB (decide (v_1 ≥ (v_2.len : Int))) (
 K0u1 true h0
 ) (
 iteB (decide (s0u1 > 0)) (
 ah s0 fun a_3 =>
 Lift.load Sl.toV (a_3.add 6) h0 fun v_3 =>
 idxS v_3 (IntKind.wrap .i64 (s0u1 - 1)) 1 fun a_4 =>
 Lift.load (Value.int .i64) a_4 h0 fun v_4 =>
 iteB (decide (v_1 ≤ v_4)) (
 K0u1 true h0
 ) (
 ah s0 fun a_5 =>
 Lift.load Sl.toV (a_5.add 4) h0 fun v_5 =>
 ah s0 fun a_6 =>
 Lift.load Sl.toV (a_6.add 5) h0 fun v_6 =>
 idxS v_6 v_1 1 fun a_7 =>
 Lift.load (Value.int .i64) a_7 h0 fun v_7 =>
 aM v_7 h0 fun v_8 h2 =>
 (cell? h2 (a_5.add 4) = some (Sl.toV v_5)) ∧
 idxS v_5 v_8 1 fun a_8 =>
 Lift.load (Value.int .i64) a_8 h2 fun v_9 =>
 K0u1 (v_9 != (-1)) h2
 )
 ) (
 ah s0 fun a_9 =>
 Lift.load Sl.toV (a_9.add 4) h0 fun v_10 =>
 ah s0 fun a_10 =>
 Lift.load Sl.toV (a_10.add 5) h0 fun v_11 =>
 idxS v_11 v_1 1 fun a_11 =>
 Lift.load (Value.int .i64) a_11 h0 fun v_12 =>
 aM v_12 h0 fun v_13 h3 =>
 (cell? h3 (a_9.add 4) = some (Sl.toV v_10)) ∧
 idxS v_10 v_13 1 fun a_12 =>
 Lift.load (Value.int .i64) a_12 h3 fun v_14 =>
 K0u1 (v_14 != (-1)) h3
 )
 )
 )
 ) (fun t0 h1 =>
 iteB t0 (
 Q false h1
 ) (
 K0 (IntKind.wrap .i64 (s0u1 + 1)) h1
 )
 )
 ) (
 Q true h0
 )
 ) 0 h
def lH (s0 : Sl × Sl × Sl × Sl × Sl × Sl × Sl × Int) (h : Heap) (Q : Bool → Heap → Prop) : Prop :=
 new [Sl.toV s0.1, Sl.toV s0.2.1, Sl.toV s0.2.2.1, Sl.toV s0.2.2.2.1, Sl.toV s0.2.2.2.2.1, Sl.toV s0.2.2.2.2.2.1, Sl.toV s0.2.2.2.2.2.2.1, Value.int .i64 s0.2.2.2.2.2.2.2] h fun s0u1 h0 =>
 Lift.load Sl.toV (s0u1.add 2) h0 fun v =>
 Let ((v.len : Int) : Int) fun n =>
 seq (fun (K0 : Bool → Heap → Prop) =>
 Lift.load Sl.toV (s0u1.add 1) h0 fun v_1 =>
 iteB ((v_1.len : Int) != (IntKind.wrap .i64 (2 * n))) (
 K0 true h0
 ) (
 Lift.load Sl.toV (s0u1.add 3) h0 fun v_2 =>
 iteB ((v_2.len : Int) != n) (
 K0 true h0
 ) (
 Lift.load Sl.toV (s0u1.add 4) h0 fun v_3 =>
 iteB ((v_3.len : Int) != n) (
 K0 true h0
 ) (
 Lift.load (Value.int .i64) (s0u1.add 7) h0 fun v_4 =>
 iteB (decide (v_4 < 0)) (
 K0 true h0
 ) (
 Lift.load (Value.int .i64) (s0u1.add 7) h0 fun v_5 =>
 Lift.load Sl.toV (s0u1.add 5) h0 fun v_6 =>
 K0 (decide (v_5 > (v_6.len : Int))) h0
 )
 )
 )
 )
 ) (fun t0 h1 =>
 iteB t0 (
 Q false h1
 ) (
 seq (fun (K0u1 : Bool → Heap → Prop) =>
 Lift.load Sl.toV (s0u1.add 0) h1 fun v_7 =>
 aA v_7 s0u1 h1 fun v_8 h3 =>
 iteB v_8 (
 K0u1 true h3
 ) (
 Lift.load Sl.toV (s0u1.add 2) h3 fun v_9 =>
 aK v_9 h3 fun v_10 h4 =>
 K0u1 v_10 h4
 )
 ) (fun t0u1 h2 =>
 iteB t0u1 (
 Q false h2
 ) (
 seq (fun (K0u2 : Bool → Heap → Prop) =>
 ia (some s0u1) h2 fun v_11 h6 =>
 iteB v_11 (
 kS (some s0u1) h6 fun v_12 h7 =>
 iteB v_12 (
 mY (some s0u1) h7 fun v_13 h8 =>
 K0u2 v_13 h8
 ) (
 K0u2 false h7
 )
 ) (
 K0u2 false h6
 )
 ) (fun t0u2 h5 =>
 Q t0u2 h5
 )
 )
 )
 )
 )
def m6 (q : (Option Addr)) (v : Int) (h : Heap) (Q : Bool → Heap → Prop) : Prop :=
 seq (fun (K0 : Bool → Heap → Prop) =>
 iteB (decide (v ≥ 0)) (
 ah q fun a =>
 Lift.load Sl.toV (a.add 0) h fun v_1 =>
 K0 (decide (v < (v_1.len : Int))) h
 ) (
 K0 false h
 )
 ) (fun t0 h0 =>
 Q t0 h0
 )
def il (r : (Option Addr)) (i : Int) (j : Int) (h : Heap) (Q : Bool → Heap → Prop) : Prop :=
 mem h fun h0 =>
 ah r fun a =>
 Lift.load Sl.toV (a.add 1) h0 fun v =>
 idxS v i 1 fun a_1 =>
 Lift.load (Value.int .i64) a_1 h0 fun v_1 =>
 ah r fun a_2 =>
 Lift.load Sl.toV (a_2.add 1) h0 fun v_2 =>
 idxS v_2 j 1 fun a_3 =>
 Lift.load (Value.int .i64) a_3 h0 fun v_3 =>
 ah r fun a_4 =>
 Lift.load Sl.toV (a_4.add 0) h0 fun v_4 =>
 idxS v_4 v_1 1 fun a_5 =>
 Lift.load (Value.int .i64) a_5 h0 fun v_5 =>
 ah r fun a_6 =>
 Lift.load Sl.toV (a_6.add 0) h0 fun v_6 =>
 idxS v_6 v_3 1 fun a_7 =>
 Lift.load (Value.int .i64) a_7 h0 fun v_7 =>
 iteB (v_5 != v_7) (
 Q (decide (v_5 > v_7)) h0
 ) (
 Q (decide (v_1 < v_3)) h0
 )
def cP (s0 : Sl) (h : Heap) (Q : Int → Heap → Prop) : Prop :=
 loop (fun (s0u1 : Int) h0 (K0 : Int → Heap → Prop) =>
 iteB (decide (s0u1 < (s0.len : Int))) (
 idxS s0 s0u1 1 fun a =>
 Lift.load (Value.int .i64) a h0 fun v =>
 dO v h0 fun v_1 h1 =>
 iteB v_1 (
 Q s0u1 h1
 ) (
 K0 (IntKind.wrap .i64 (s0u1 + 1)) h1
 )
 ) (
 Q (-1) h0
 )
 ) 0 h
def aL (s0 : Sl) (h : Heap) (Q : Bool → Heap → Prop) : Prop :=
 cP s0 h fun v h0 =>
 Q (decide (v ≥ 0)) h0
def jG (q : Sl × Sl) (h : Heap) (Q : Bool → Heap → Prop) : Prop :=
 new [Sl.toV q.1, Sl.toV q.2] h fun q_1 h0 =>
 newM h0 fun v h1 =>
 Lift.load Sl.toV (q_1.add 1) h1 fun v_1 =>
 loop (fun (s0 : Int) h2 (K0 : Int → Heap → Prop) =>
 iteB (decide (s0 < (v_1.len : Int))) (
 idxS v_1 s0 1 fun a =>
 Lift.load (Value.int .i64) a h2 fun v_2 =>
 seq (fun (K0u1 : Bool → Heap → Prop) =>
 m6 (some q_1) v_2 h2 fun v_3 h4 =>
 iteB (!v_3) (
 K0u1 true h4
 ) (
 adn .i64 Value.bool false v v_2 h4 fun v_4 =>
 iteB v_4.1 (
 K0u1 true h4
 ) (
 iteB (decide (s0 > 0)) (
 il (some q_1) (IntKind.wrap .i64 (Int.tdiv (IntKind.wrap .i64 (s0 - 1)) 2)) s0 h4 fun v_5 h5 =>
 K0u1 (!v_5) h5
 ) (
 K0u1 false h4
 )
 )
 )
 ) (fun t0 h3 =>
 iteB t0 (
 Q false h3
 ) (
 setM .i64 Value.bool v v_2 true h3 fun h6 =>
 K0 (IntKind.wrap .i64 (s0 + 1)) h6
 )
 )
 ) (
 Lift.load Sl.toV (q_1.add 0) h2 fun v_6 =>
 aL v_6 h2 fun v_7 h7 =>
 Q (!v_7) h7
 )
 ) 0 h1
def nD (t0 : Sl × Sl × Sl × Sl × Sl) (v : Int) (h : Heap) (Q : Int → Heap → Prop) : Prop :=
 mem h fun h0 =>
 cB t0.1 v h0 fun v_1 h1 =>
 Q v_1 h1
def nU (x0 : Bool × Sl × Sl × Bool × Sl × Sl) (h : Heap) (Q : Bool → Heap → Prop) : Prop :=
 mem h fun h0 =>
 seq (fun (K0 : Bool → Heap → Prop) =>
 bq (x0.1, x0.2.1, x0.2.2.1) h0 fun v h2 =>
 iteB v (
 bq (x0.2.2.2.1, x0.2.2.2.2.1, x0.2.2.2.2.2) h2 fun v_1 h3 =>
 K0 v_1 h3
 ) (
 K0 false h2
 )
 ) (fun t0 h1 =>
 Q t0 h1
 )
def im (x0 : Bool × Sl × Sl × Bool × Sl × Sl) (c0 : Addr) (h : Heap) (Q : Bool → Heap → Prop) : Prop :=
 mem h fun h0 =>
 Lift.load FnV.toV c0 h0 fun v =>
 dyn (fun (K0 : Bool → Heap → Prop) =>
 (v = FnV.mk 84 [] [] ∧ nU x0 h0 K0)
 ) fun v_1 h1 =>
 Q (!v_1) h1
def bD (s0 : Sl) (f_c : Addr) (h : Heap) (Q : Int → Heap → Prop) : Prop :=
 loop (fun (s0u1 : Int) h0 (K0 : Int → Heap → Prop) =>
 iteB (decide (s0u1 < (s0.len : Int))) (
 idxS s0 s0u1 6 fun a =>
 cg bw 6 a h0 fun v =>
 im v f_c h0 fun v_1 h1 =>
 iteB v_1 (
 Q s0u1 h1
 ) (
 K0 (IntKind.wrap .i64 (s0u1 + 1)) h1
 )
 ) (
 Q (-1) h0
 )
 ) 0 h
def aE (s0 : Sl) (f_c : Addr) (h : Heap) (Q : Bool → Heap → Prop) : Prop :=
 bD s0 f_c h fun v h0 =>
 Q (decide (v ≥ 0)) h0
def du (s0 : Sl) (n : Int) (h : Heap) (Q : Sl → Heap → Prop) : Prop :=
 seq (fun (K0 : Unit → Heap → Prop) =>
 iteB (decide (n < 0)) (
 False
 ) (
 K0 () h
 )
 ) (fun t0 h0 =>
 seq (fun (K0u1 : Sl → Heap → Prop) =>
 Let (IntKind.wrap .i64 (n - (IntKind.wrap .i64 ((s0.cap : Int) - (s0.len : Int)))) : Int) fun n_1 =>
 iteB (decide (n_1 > 0)) (
 ki s0 none (some (s0.cap : Int)) none 7 fun v =>
 akU 7 120 [Value.int .i64 0, Value.bool false, Sl.toV Sl.nil, Sl.toV Sl.nil, Value.bool false, Sl.toV Sl.nil, Sl.toV Sl.nil] v n_1 h0 fun v_1 h2 =>
 ki v_1 none (some (s0.len : Int)) none 7 fun v_2 =>
 K0u1 v_2 h2
 ) (
 K0u1 s0 h0
 )
 ) (fun t0u1 h1 =>
 Q t0u1 h1
 )
 )
def cN (slices : Sl) (h : Heap) (Q : Sl → Heap → Prop) : Prop :=
 loop (fun (s0 : Int × Int) h0 (K0 : (Int × Int) → Heap → Prop) =>
 iteB (decide (s0.2 < (slices.len : Int))) (
 seq (fun (K0u1 : Int → Heap → Prop) =>
 idxS slices s0.2 1 fun a =>
 Lift.load Sl.toV a h0 fun v =>
 Let (IntKind.wrap .i64 (s0.1 + (v.len : Int)) : Int) fun size =>
 iteB (decide (size < 0)) (
 False
 ) (
 K0u1 size h0
 )
 ) (fun t0 h1 =>
 K0 (t0, IntKind.wrap .i64 (s0.2 + 1)) h1
 )
 ) (
 du Sl.nil s0.1 h0 fun v_1 h2 =>
 loop (fun (s0u1 : Sl × Int) h3 (K0u2 : (Sl × Int) → Heap → Prop) =>
 iteB (decide (s0u1.2 < (slices.len : Int))) (
 idxS slices s0u1.2 1 fun a_1 =>
 Lift.load Sl.toV a_1 h3 fun v_2 =>
 aP 7 120 s0u1.1 v_2 h3 fun v_3 h4 =>
 K0u2 (v_3, IntKind.wrap .i64 (s0u1.2 + 1)) h4
 ) (
 Q s0u1.1 h3
 )
 ) (v_1, 0) h2
 )
 ) (0, 0) h
def te (x0 : Bool × Sl × Sl × Bool × Sl × Sl) (y : Bool × Sl × Sl × Bool × Sl × Sl) (h : Heap) (Q : Int → Heap → Prop) : Prop :=
 mem h fun h0 =>
 j6 (x0.1, x0.2.1, x0.2.2.1) (y.1, y.2.1, y.2.2.1) h0 fun v h1 =>
 iteB (v != 0) (
 Q v h1
 ) (
 j6 (x0.2.2.2.1, x0.2.2.2.2.1, x0.2.2.2.2.2) (y.2.2.2.1, y.2.2.2.2.1, y.2.2.2.2.2) h1 fun v_1 h2 =>
 Q v_1 h2
 )
def lW (x0 : Bool × Sl × Sl × Bool × Sl × Sl) (y : Bool × Sl × Sl × Bool × Sl × Sl) (h : Heap) (Q : Bool → Heap → Prop) : Prop :=
 mem h fun h0 =>
 te x0 y h0 fun v h1 =>
 Q (v == 0) h1
def oX (e : Int × Bool × Sl × Sl × Bool × Sl × Sl) (h : Heap) (Q : Bool → Heap → Prop) : Prop :=
 mem h fun h0 =>
 iteB (e.1 == 0) (
 seq (fun (K0 : Bool → Heap → Prop) =>
 lW (e.2.1, e.2.2.1, e.2.2.2.1, e.2.2.2.2.1, e.2.2.2.2.2.1, e.2.2.2.2.2.2) (false, Sl.nil, Sl.nil, false, Sl.nil, Sl.nil) h0 fun v h2 =>
 iteB v (
 K0 ((IntKind.wrap .i64 ((e.2.2.2.1.len : Int) + (e.2.2.2.2.2.2.len : Int))) == 0) h2
 ) (
 K0 false h2
 )
 ) (fun t0 h1 =>
 Q t0 h1
 )
 ) (
 seq (fun (K0u1 : Bool → Heap → Prop) =>
 bq (e.2.1, e.2.2.1, e.2.2.2.1) h0 fun v_1 h4 =>
 iteB v_1 (
 bq (e.2.2.2.2.1, e.2.2.2.2.2.1, e.2.2.2.2.2.2) h4 fun v_2 h5 =>
 K0u1 v_2 h5
 ) (
 K0u1 false h4
 )
 ) (fun t0u1 h3 =>
 Q t0u1 h3
 )
 )
def kg (e : Int × Bool × Sl × Sl × Bool × Sl × Sl) (h : Heap) (Q : Bool → Heap → Prop) : Prop :=
 mem h fun h0 =>
 oX e h0 fun v h1 =>
 Q (!v) h1
def bS (s0 : Sl) (h : Heap) (Q : Int → Heap → Prop) : Prop :=
 loop (fun (s0u1 : Int) h0 (K0 : Int → Heap → Prop) =>
 iteB (decide (s0u1 < (s0.len : Int))) (
 idxS s0 s0u1 7 fun a =>
 cg cm 7 a h0 fun v =>
 kg v h0 fun v_1 h1 =>
 iteB v_1 (
 Q s0u1 h1
 ) (
 K0 (IntKind.wrap .i64 (s0u1 + 1)) h1
 )
 ) (
 Q (-1) h0
 )
 ) 0 h
def aH (s0 : Sl) (h : Heap) (Q : Bool → Heap → Prop) : Prop :=
 bS s0 h fun v h0 =>
 Q (decide (v ≥ 0)) h0
def kh (m0 : Int × Bool × Sl × Sl) (c0 : Addr) (c1 : Addr) (h : Heap) (Q : Bool → Heap → Prop) : Prop :=
 mem h fun h0 =>
 seq (fun (K0 : Bool → Heap → Prop) =>
 Lift.load (Value.int .i64) c0 h0 fun v =>
 iteB (decide (m0.1 ≥ v)) (
 K0 true h0
 ) (
 cg cD 5 c1 h0 fun v_1 =>
 nD v_1 m0.1 h0 fun v_2 h2 =>
 K0 (decide (v_2 ≥ 0)) h2
 )
 ) (fun t0 h1 =>
 Q t0 h1
 )
def bQ (s0 : Sl) (f_c : Addr) (f_c_1 : Addr) (h : Heap) (Q : Int → Heap → Prop) : Prop :=
 loop (fun (s0u1 : Int) h0 (K0 : Int → Heap → Prop) =>
 iteB (decide (s0u1 < (s0.len : Int))) (
 idxS s0 s0u1 4 fun a =>
 cg bd 4 a h0 fun v =>
 kh v f_c f_c_1 h0 fun v_1 h1 =>
 iteB v_1 (
 Q s0u1 h1
 ) (
 K0 (IntKind.wrap .i64 (s0u1 + 1)) h1
 )
 ) (
 Q (-1) h0
 )
 ) 0 h
def aI (s0 : Sl) (f_c : Addr) (f_c_1 : Addr) (h : Heap) (Q : Bool → Heap → Prop) : Prop :=
 bQ s0 f_c f_c_1 h fun v h0 =>
 Q (decide (v ≥ 0)) h0
def xX (x0 : Sl) (at0 : Int) (h : Heap) (Q : Int → Heap → Prop) : Prop :=
 idxS x0 (IntKind.wrap .i64 (Int.tdiv at0 32)) 1 fun a =>
 Lift.load (Value.int .u32) a h fun v =>
 (0 ≤ (Int.tmod at0 32)) ∧
 Q (IntKind.wrap .u32 (((BitVec.ofInt (IntKind.bits .u32) (Int.fdiv v (2 ^ (min (Int.toNat (Int.tmod at0 32)) (IntKind.bits .u32)))) &&& BitVec.ofInt (IntKind.bits .u32) 1).toNat : Int))) h
def qf (x0 : Sl) (y : Sl) (h : Heap) (Q : (Sl × Sl) → Heap → Prop) : Prop :=
 kW x0 h fun v h0 =>
 kW y h0 fun v_1 h1 =>
 seq (fun (K0 : Bool → Heap → Prop) =>
 iteB v.2 (
 K0 v_1.2 h1
 ) (
 K0 false h1
 )
 ) (fun t0 h2 =>
 iteB t0 (
 (v_1.1 ≠ 0) ∧
 (v_1.1 ≠ 0) ∧
 r6 (IntKind.wrap .u64 (Int.tdiv v.1 v_1.1)) h2 fun v_2 h3 =>
 r6 (Int.tmod v.1 v_1.1) h3 fun v_3 h4 =>
 Q (v_2, v_3) h4
 ) (
 bZ x0 h2 fun v_4 h5 =>
 bZ y h5 fun v_5 h6 =>
 Let ((v_4.len : Int) : Int) fun t38 =>
 mkS [Value.int .u32 0] 4 t38 t38 h6 fun v_6 h7 =>
 Let (IntKind.wrap .i64 ((IntKind.wrap .i64 ((v_4.len : Int) * 32)) - 1) : Int) fun at0 =>
 loop (fun (s0 : Sl × Int) h8 (K0u1 : (Sl × Int) → Heap → Prop) =>
 iteB (decide (s0.2 ≥ 0)) (
 seq (fun (K0u2 : Sl → Heap → Prop) =>
 qr s0.1 s0.1 h8 fun v_7 h10 =>
 idxS v_7 0 1 fun a =>
 Lift.load (Value.int .u32) a h10 fun v_8 =>
 xX v_4 s0.2 h10 fun v_9 h11 =>
 (cell? h11 a = some (Value.int .u32 v_8)) ∧
 idxS v_7 0 1 fun a_1 =>
 Lift.amL a_1 (Value.int .u32 (IntKind.wrap .u32 (((BitVec.ofInt (IntKind.bits .u32) v_8 ||| BitVec.ofInt (IntKind.bits .u32) v_9).toNat : Int)))) h11 fun h12 =>
 bZ v_7 h12 fun v_10 h13 =>
 ni v_10 v_5 h13 fun v_11 h14 =>
 iteB (decide (v_11 ≥ 0)) (
 lf v_10 v_5 h14 fun v_12 h15 =>
 idxS v_6 (IntKind.wrap .i64 (Int.tdiv s0.2 32)) 1 fun a_2 =>
 Lift.load (Value.int .u32) a_2 h15 fun v_13 =>
 (0 ≤ (Int.tmod s0.2 32)) ∧
 idxS v_6 (IntKind.wrap .i64 (Int.tdiv s0.2 32)) 1 fun a_3 =>
 Lift.amL a_3 (Value.int .u32 (IntKind.wrap .u32 (((BitVec.ofInt (IntKind.bits .u32) v_13 ||| BitVec.ofInt (IntKind.bits .u32) (IntKind.wrap .u32 (1 * 2 ^ (min (Int.toNat (Int.tmod s0.2 32)) (IntKind.bits .u32))))).toNat : Int)))) h15 fun h16 =>
 K0u2 v_12 h16
 ) (
 K0u2 v_10 h14
 )
 ) (fun t0u1 h9 =>
 Let (IntKind.wrap .i64 (s0.2 - 1) : Int) fun at0u1 =>
 K0u1 (t0u1, at0u1) h9
 )
 ) (
 bZ v_6 h8 fun v_14 h17 =>
 Q (v_14, s0.1) h17
 )
 ) (Sl.nil, at0) h7
 )
 )
def gY (b : (Option Addr)) (x0 : Sl) (y : Sl) (h : Heap) (Q : (Sl × Sl) → Heap → Prop) : Prop :=
 bZ y h fun v h0 =>
 iteB ((v.len : Int) == 0) (
 Q (Sl.nil, Sl.nil) h0
 ) (
 qf x0 y h0 fun v_1 h1 =>
 dH b v_1.1 h1 fun v_2 h2 =>
 dH b v_1.2 h2 fun v_3 h3 =>
 ah b fun a =>
 Lift.load Value.bool (a.add 1) h3 fun v_4 =>
 iteB v_4 (
 Q (Sl.nil, Sl.nil) h3
 ) (
 Q (v_2, v_3) h3
 )
 )
def mM (neg : Bool) (num : Sl) (d : Sl) (h : Heap) (Q : (Bool × Sl × Sl) → Heap → Prop) : Prop :=
 mem h fun h0 =>
 i5 h0 fun v h1 =>
 gX v num d h1 fun v_1 h2 =>
 gY v num v_1 h2 fun v_2 h3 =>
 gY v d v_1 h3 fun v_3 h4 =>
 seq (fun (K0 : Sl → Heap → Prop) =>
 jv v_3.1 h4 fun v_4 h6 =>
 iteB v_4 (
 K0 Sl.nil h6
 ) (
 K0 v_3.1 h6
 )
 ) (fun t0 h5 =>
 iteB ((v_2.1.len : Int) == 0) (
 Q (false, Sl.nil, Sl.nil) h5
 ) (
 Q (neg, v_2.1, t0) h5
 )
 )
def gt (b : (Option Addr)) (h : Heap) (Q : Bool → Heap → Prop) : Prop :=
 ah b fun a =>
 Lift.load Value.bool (a.add 1) h fun v =>
 Q v h
def oM (b : (Option Addr)) (x0 : Bool × Sl × Sl) (h : Heap) (Q : (Bool × Sl × Sl) → Heap → Prop) : Prop :=
 mem h fun h0 =>
 fX b x0.2.1 Sl.nil h0 fun v h1 =>
 fX b x0.2.2 Sl.nil h1 fun v_1 h2 =>
 gt b h2 fun v_2 h3 =>
 iteB v_2 (
 Q (false, Sl.nil, Sl.nil) h3
 ) (
 Q x0 h3
 )
def pO (b : (Option Addr)) (x0 : Bool × Sl × Sl) (y : Bool × Sl × Sl) (h : Heap) (Q : (Bool × Sl × Sl) → Heap → Prop) : Prop :=
 mem h fun h0 =>
 i5 h0 fun v h1 =>
 eT v x0.2.1 y.2.1 h1 fun v_1 h2 =>
 gE x0 h2 fun v_2 h3 =>
 gE y h3 fun v_3 h4 =>
 eT v v_2 v_3 h4 fun v_4 h5 =>
 mM (!(x0.1 == y.1)) v_1 v_4 h5 fun v_5 h6 =>
 oM b v_5 h6 fun v_6 h7 =>
 Q v_6 h7
def jR (b : (Option Addr)) (x0 : Bool × Sl × Sl × Bool × Sl × Sl) (y : Bool × Sl × Sl × Bool × Sl × Sl) (h : Heap) (Q : (Bool × Sl × Sl × Bool × Sl × Sl) → Heap → Prop) : Prop :=
 mem h fun h0 =>
 seq (fun (K0 : (Bool × Sl × Sl × Bool × Sl × Sl) → Heap → Prop) =>
 mem h0 fun h2 =>
 pO b (x0.1, x0.2.1, x0.2.2.1) (y.1, y.2.1, y.2.2.1) h2 fun v_3 h9 =>
 mem h9 fun h10 =>
 pO b (x0.2.2.2.1, x0.2.2.2.2.1, x0.2.2.2.2.2) (y.2.2.2.1, y.2.2.2.2.1, y.2.2.2.2.2) h10 fun v_4 h11 =>
 mem h11 fun h12 =>
 K0 (v_3.1, v_3.2.1, v_3.2.2, v_4.1, v_4.2.1, v_4.2.2) h12
 ) (fun t0 h1 =>
 gt b h1 fun v_5 h13 =>
 iteB v_5 (
 Q (false, Sl.nil, Sl.nil, false, Sl.nil, Sl.nil) h13
 ) (
 Q t0 h13
 )
 )
def rz (b : (Option Addr)) (k : Bool × Sl × Sl) (x0 : Bool × Sl × Sl × Bool × Sl × Sl) (h : Heap) (Q : (Bool × Sl × Sl × Bool × Sl × Sl) → Heap → Prop) : Prop :=
 mem h fun h0 =>
 jR b (k.1, k.2.1, k.2.2, k.1, k.2.1, k.2.2) x0 h0 fun v h1 =>
 Q v h1
def oY (b : (Option Addr)) (x0 : Bool × Sl × Sl) (y : Bool × Sl × Sl) (h : Heap) (Q : (Bool × Sl × Sl) → Heap → Prop) : Prop :=
 mem h fun h0 =>
 nC x0 y h0 fun v h1 =>
 sF (v.1.1, v.1.2) (v.2.1, v.2.2) h1 fun v_1 h2 =>
 mem h2 fun h3 =>
 i5 h3 fun v_2 h4 =>
 gE x0 h4 fun v_3 h5 =>
 gE y h5 fun v_4 h6 =>
 eT v_2 v_3 v_4 h6 fun v_5 h7 =>
 mM v_1.1 v_1.2 v_5 h7 fun v_6 h8 =>
 oM b v_6 h8 fun v_7 h9 =>
 Q v_7 h9
def jU (b : (Option Addr)) (x0 : Bool × Sl × Sl × Bool × Sl × Sl) (y : Bool × Sl × Sl × Bool × Sl × Sl) (h : Heap) (Q : (Bool × Sl × Sl × Bool × Sl × Sl) → Heap → Prop) : Prop :=
 mem h fun h0 =>
 seq (fun (K0 : (Bool × Sl × Sl × Bool × Sl × Sl) → Heap → Prop) =>
 mem h0 fun h2 =>
 oY b (x0.1, x0.2.1, x0.2.2.1) (y.1, y.2.1, y.2.2.1) h2 fun v_3 h9 =>
 mem h9 fun h10 =>
 oY b (x0.2.2.2.1, x0.2.2.2.2.1, x0.2.2.2.2.2) (y.2.2.2.1, y.2.2.2.2.1, y.2.2.2.2.2) h10 fun v_4 h11 =>
 mem h11 fun h12 =>
 K0 (v_3.1, v_3.2.1, v_3.2.2, v_4.1, v_4.2.1, v_4.2.2) h12
 ) (fun t0 h1 =>
 gt b h1 fun v_5 h13 =>
 iteB v_5 (
 Q (false, Sl.nil, Sl.nil, false, Sl.nil, Sl.nil) h13
 ) (
 Q t0 h13
 )
 )
def xT (b : (Option Addr)) (x0 : Bool × Sl × Sl × Bool × Sl × Sl) (y : Bool × Sl × Sl × Bool × Sl × Sl) (h : Heap) (Q : (Bool × Sl × Sl × Bool × Sl × Sl) → Heap → Prop) : Prop :=
 mem h fun h0 =>
 jU b x0 y h0 fun v h1 =>
 Q v h1
def nA (b : (Option Addr)) (p : Bool × Sl × Sl × Sl) (values : Sl) (h : Heap) (Q : (Bool × Sl × Sl × Bool × Sl × Sl) → Heap → Prop) : Prop :=
 mem h fun h0 =>
 loop (fun (s0 : Int × Bool × Sl × Sl × Bool × Sl × Sl) h1 (K0 : (Int × Bool × Sl × Sl × Bool × Sl × Sl) → Heap → Prop) =>
 iteB (decide (s0.1 < (p.2.2.2.len : Int))) (
 idxS p.2.2.2 s0.1 4 fun a =>
 cg bd 4 a h1 fun v =>
 mem h1 fun h2 =>
 idxS values v.1 6 fun a_1 =>
 cg bw 6 a_1 h2 fun v_1 =>
 rz b (v.2.1, v.2.2.1, v.2.2.2) v_1 h2 fun v_2 h3 =>
 xT b (s0.2.1, s0.2.2.1, s0.2.2.2.1, s0.2.2.2.2.1, s0.2.2.2.2.2.1, s0.2.2.2.2.2.2) v_2 h3 fun v_3 h4 =>
 K0 (IntKind.wrap .i64 (s0.1 + 1), v_3.1, v_3.2.1, v_3.2.2.1, v_3.2.2.2.1, v_3.2.2.2.2.1, v_3.2.2.2.2.2) h4
 ) (
 Q (s0.2.1, s0.2.2.1, s0.2.2.2.1, s0.2.2.2.2.1, s0.2.2.2.2.2.1, s0.2.2.2.2.2.2) h1
 )
 ) (0, false, Sl.nil, Sl.nil, false, Sl.nil, Sl.nil) h0
def kM (t0 : Sl × Sl × Sl × Sl × Sl) (h : Heap) (Q : Bool → Heap → Prop) : Prop :=
 new [Sl.toV t0.1, Sl.toV t0.2.1, Sl.toV t0.2.2.1, Sl.toV t0.2.2.2.1, Sl.toV t0.2.2.2.2] h fun t0u1 h0 =>
 Lift.load Sl.toV (t0u1.add 2) h0 fun v =>
 new [Value.int .i64 0] h0 fun n h1 =>
 Lift.amL n (Value.int .i64 (v.len : Int)) h1 fun h2 =>
 seq (fun (K0 : Bool → Heap → Prop) =>
 Lift.load Sl.toV (t0u1.add 0) h2 fun v_1 =>
 Lift.load Sl.toV (t0u1.add 1) h2 fun v_2 =>
 iteB ((v_1.len : Int) != (v_2.len : Int)) (
 K0 true h2
 ) (
 Lift.load Sl.toV (t0u1.add 3) h2 fun v_3 =>
 Lift.load (Value.int .i64) n h2 fun v_4 =>
 iteB ((v_3.len : Int) != v_4) (
 K0 true h2
 ) (
 Lift.load Sl.toV (t0u1.add 4) h2 fun v_5 =>
 Lift.load (Value.int .i64) n h2 fun v_6 =>
 K0 ((v_5.len : Int) != v_6) h2
 )
 )
 ) (fun t0u2 h3 =>
 iteB t0u2 (
 Q false h3
 ) (
 Lift.load Sl.toV (t0u1.add 0) h3 fun v_7 =>
 loop (fun (s0 : Int) h4 (K0u1 : Int → Heap → Prop) =>
 iteB (decide (s0 < (v_7.len : Int))) (
 idxS v_7 s0 1 fun a =>
 Lift.load (Value.int .i64) a h4 fun v_8 =>
 seq (fun (K0u2 : Bool → Heap → Prop) =>
 iteB (decide (v_8 < 0)) (
 K0u2 true h4
 ) (
 Lift.load (Value.int .i64) n h4 fun v_9 =>
 iteB (decide (v_8 ≥ v_9)) (
 K0u2 true h4
 ) (
 cg cD 5 t0u1 h4 fun v_10 =>
 nD v_10 v_8 h4 fun v_11 h6 =>
 K0u2 (v_11 != s0) h6
 )
 )
 ) (fun t0u3 h5 =>
 iteB t0u3 (
 Q false h5
 ) (
 K0u1 (IntKind.wrap .i64 (s0 + 1)) h5
 )
 )
 ) (
 new [Value.nilFunc] h4 fun number h7 =>
 Lift.amL number (FnV.toV (FnV.mk 84 [] [])) h7 fun h8 =>
 seq (fun (K0u3 : Bool → Heap → Prop) =>
 Lift.load Sl.toV (t0u1.add 2) h8 fun v_12 =>
 aE v_12 number h8 fun v_13 h10 =>
 iteB v_13 (
 K0u3 true h10
 ) (
 Lift.load Sl.toV (t0u1.add 3) h10 fun v_14 =>
 Lift.load Sl.toV (t0u1.add 4) h10 fun v_15 =>
 new [Sl.toV v_14, Sl.toV v_15] h10 fun a_1 h11 =>
 cN (⟨some a_1, 2, 2⟩ : Sl) h11 fun v_17 h12 =>
 aH v_17 h12 fun v_18 h13 =>
 K0u3 v_18 h13
 )
 ) (fun t0u4 h9 =>
 iteB t0u4 (
 Q false h9
 ) (
 acl 1048576 h9 fun v_19 h14 =>
 Lift.load Sl.toV (t0u1.add 1) h14 fun v_20 =>
 loop (fun (s0u1 : Int) h15 (K0u4 : Int → Heap → Prop) =>
 iteB (decide (s0u1 < (v_20.len : Int))) (
 idxS v_20 s0u1 4 fun a_2 =>
 cg cV 4 a_2 h15 fun v_21 =>
 mem h15 fun h16 =>
 seq (fun (K0u5 : Bool → Heap → Prop) =>
 iZ v_21 h16 fun v_22 h18 =>
 iteB (!v_22) (
 K0u5 true h18
 ) (
 iU (v_21.1, v_21.2.1, v_21.2.2.1) h18 fun v_23 h19 =>
 iteB (v_23 != 0) (
 K0u5 true h19
 ) (
 aI v_21.2.2.2 n t0u1 h19 fun v_24 h20 =>
 iteB v_24 (
 K0u5 true h20
 ) (
 Lift.load Sl.toV (t0u1.add 2) h20 fun v_25 =>
 Lift.load Sl.toV (t0u1.add 2) h20 fun v_26 =>
 Lift.load Sl.toV (t0u1.add 0) h20 fun v_27 =>
 idxS v_27 s0u1 1 fun a_3 =>
 Lift.load (Value.int .i64) a_3 h20 fun v_28 =>
 idxS v_26 v_28 6 fun a_4 =>
 cg bw 6 a_4 h20 fun v_29 =>
 nA v_19 v_21 v_25 h20 fun v_30 h21 =>
 (cell? h21 (t0u1.add 2) = some (Sl.toV v_26)) ∧
 (cell? h21 (t0u1.add 0) = some (Sl.toV v_27)) ∧
 (cell? h21 a_3 = some (Value.int .i64 v_28)) ∧
 (cells? h21 a_4 6 0 = some [Value.bool v_29.1, Sl.toV v_29.2.1, Sl.toV v_29.2.2.1, Value.bool v_29.2.2.2.1, Sl.toV v_29.2.2.2.2.1, Sl.toV v_29.2.2.2.2.2]) ∧
 lW v_30 v_29 h21 fun v_31 h22 =>
 K0u5 (!v_31) h22
 )
 )
 )
 ) (fun t0u5 h17 =>
 iteB t0u5 (
 Q false h17
 ) (
 K0u4 (IntKind.wrap .i64 (s0u1 + 1)) h17
 )
 )
 ) (
 Q true h15
 )
 ) 0 h14
 )
 )
 )
 ) 0 h3
 )
 )
def nq (e : Int × Bool × Sl × Sl × Bool × Sl × Sl) (h : Heap) (Q : Bool → Heap → Prop) : Prop :=
 mem h fun h0 =>
 iteB (e.1 == 0) (
 seq (fun (K0 : Bool → Heap → Prop) =>
 te (e.2.1, e.2.2.1, e.2.2.2.1, e.2.2.2.2.1, e.2.2.2.2.2.1, e.2.2.2.2.2.2) (false, Sl.nil, Sl.nil, false, Sl.nil, Sl.nil) h0 fun v h2 =>
 iteB (v == 0) (
 bq (e.2.1, e.2.2.1, e.2.2.2.1) h2 fun v_1 h3 =>
 iteB v_1 (
 bq (e.2.2.2.2.1, e.2.2.2.2.2.1, e.2.2.2.2.2.2) h3 fun v_2 h4 =>
 K0 v_2 h4
 ) (
 K0 false h3
 )
 ) (
 K0 false h2
 )
 ) (fun t0 h1 =>
 Q t0 h1
 )
 ) (
 seq (fun (K0u1 : Bool → Heap → Prop) =>
 bq (e.2.1, e.2.2.1, e.2.2.2.1) h0 fun v_3 h6 =>
 iteB v_3 (
 bq (e.2.2.2.2.1, e.2.2.2.2.2.1, e.2.2.2.2.2.2) h6 fun v_4 h7 =>
 K0u1 v_4 h7
 ) (
 K0u1 false h6
 )
 ) (fun t0u1 h5 =>
 Q t0u1 h5
 )
 )
def ja (s0 : Int × Int × Sl × Sl × Sl × Sl × Sl × Int × Int × Sl × Sl × Sl × Sl × Sl × Sl × Sl × Int × Sl × Sl × Sl × Sl × Sl × Sl × Sl × Sl × Int × Sl × Int × Int × Int × Int × Int × Int) (h : Heap) (Q : Bool → Heap → Prop) : Prop :=
 mem h fun h0 =>
 loop (fun (s0u1 : Int × Int) h1 (K0 : (Int × Int) → Heap → Prop) =>
 iteB (decide (s0u1.2 < (s0.2.2.2.2.2.2.2.2.2.2.2.2.2.2.2.2.2.2.2.2.2.2.2.2.1.len : Int))) (
 idxS s0.2.2.2.2.2.2.2.2.2.2.2.2.2.2.2.2.2.2.2.2.2.2.2.2.1 s0u1.2 10 fun a =>
 cg aQ 10 a h1 fun v =>
 mem h1 fun h2 =>
 seq (fun (K0u1 : Bool → Heap → Prop) =>
 iteB (decide (v.1 < 0)) (
 K0u1 true h2
 ) (
 iteB (decide (v.1 ≥ (s0.2.2.2.2.2.2.2.2.2.2.2.2.2.2.2.2.2.2.2.2.2.1.len : Int))) (
 K0u1 true h2
 ) (
 iteB (decide (v.2.2.2.2.2.2.2.2.2 < s0u1.1)) (
 K0u1 true h2
 ) (
 iteB (decide (v.2.2.2.2.2.2.2.2.2 ≥ (s0.2.2.2.2.2.2.2.2.2.2.2.2.2.2.1.len : Int))) (
 K0u1 true h2
 ) (
 nq (v.2.2.1, v.2.2.2.1, v.2.2.2.2.1, v.2.2.2.2.2.1, v.2.2.2.2.2.2.1, v.2.2.2.2.2.2.2.1, v.2.2.2.2.2.2.2.2.1) h2 fun v_1 h4 =>
 K0u1 (!v_1) h4
 )
 )
 )
 )
 ) (fun t0 h3 =>
 iteB t0 (
 Q false h3
 ) (
 K0 (v.2.2.2.2.2.2.2.2.2, IntKind.wrap .i64 (s0u1.2 + 1)) h3
 )
 )
 ) (
 Q true h1
 )
 ) (0, 0) h0
def wG (q : Sl × Sl) (v : Int) (h : Heap) (Q : Bool → Heap → Prop) : Prop :=
 mem h fun h0 =>
 aC q.2 v h0 fun v_1 h1 =>
 Q v_1 h1
def jc (s0 : Int × Int × Sl × Sl × Sl × Sl × Sl × Int × Int × Sl × Sl × Sl × Sl × Sl × Sl × Sl × Int × Sl × Sl × Sl × Sl × Sl × Sl × Sl × Sl × Int × Sl × Int × Int × Int × Int × Int × Int) (h : Heap) (Q : Bool → Heap → Prop) : Prop :=
 mem h fun h0 =>
 loop (fun (s0u1 : Int) h1 (K0 : Int → Heap → Prop) =>
 iteB (decide (s0u1 < (s0.2.2.2.2.2.2.2.2.2.2.2.1.len : Int))) (
 idxS s0.2.2.2.2.2.2.2.2.2.2.2.1 s0u1 1 fun a =>
 Lift.load (Value.int .i64) a h1 fun v =>
 seq (fun (K0u1 : Bool → Heap → Prop) =>
 iteB (v == 0) (
 wG (s0.2.2.2.2.2.2.2.2.2.2.2.2.2.2.2.2.2.1, s0.2.2.2.2.2.2.2.2.2.2.2.2.2.2.2.2.2.2.1) s0u1 h1 fun v_1 h3 =>
 K0u1 (!v_1) h3
 ) (
 K0u1 false h1
 )
 ) (fun t0 h2 =>
 iteB t0 (
 Q false h2
 ) (
 K0 (IntKind.wrap .i64 (s0u1 + 1)) h2
 )
 )
 ) (
 Q true h1
 )
 ) 0 h0
def fO (s0 : Int × Int × Sl × Sl × Sl × Sl × Sl × Int × Int × Sl × Sl × Sl × Sl × Sl × Sl × Sl × Int × Sl × Sl × Sl × Sl × Sl × Sl × Sl × Sl × Int × Sl × Int × Int × Int × Int × Int × Int) (h : Heap) (Q : Bool → Heap → Prop) : Prop :=
 mem h fun h0 =>
 Let (IntKind.wrap .i64 (s0.2.1 + (s0.2.2.1.len : Int)) : Int) fun reals =>
 seq (fun (K0 : Bool → Heap → Prop) =>
 mB (s0.1, s0.2.1, s0.2.2.1, s0.2.2.2.1, s0.2.2.2.2.1, s0.2.2.2.2.2.1, s0.2.2.2.2.2.2.1) h0 fun v h2 =>
 iteB (!v) (
 K0 true h2
 ) (
 lH (s0.2.2.2.2.2.2.2.2.2.1, s0.2.2.2.2.2.2.2.2.2.2.1, s0.2.2.2.2.2.2.2.2.2.2.2.1, s0.2.2.2.2.2.2.2.2.2.2.2.2.1, s0.2.2.2.2.2.2.2.2.2.2.2.2.2.1, s0.2.2.2.2.2.2.2.2.2.2.2.2.2.2.1, s0.2.2.2.2.2.2.2.2.2.2.2.2.2.2.2.1, s0.2.2.2.2.2.2.2.2.2.2.2.2.2.2.2.2.1) h2 fun v_1 h3 =>
 iteB (!v_1) (
 K0 true h3
 ) (
 jG (s0.2.2.2.2.2.2.2.2.2.2.2.2.2.2.2.2.2.1, s0.2.2.2.2.2.2.2.2.2.2.2.2.2.2.2.2.2.2.1) h3 fun v_2 h4 =>
 iteB (!v_2) (
 K0 true h4
 ) (
 kM (s0.2.2.2.2.2.2.2.2.2.2.2.2.2.2.2.2.2.2.2.1, s0.2.2.2.2.2.2.2.2.2.2.2.2.2.2.2.2.2.2.2.2.1, s0.2.2.2.2.2.2.2.2.2.2.2.2.2.2.2.2.2.2.2.2.2.1, s0.2.2.2.2.2.2.2.2.2.2.2.2.2.2.2.2.2.2.2.2.2.2.1, s0.2.2.2.2.2.2.2.2.2.2.2.2.2.2.2.2.2.2.2.2.2.2.2.1) h4 fun v_3 h5 =>
 K0 (!v_3) h5
 )
 )
 )
 ) (fun t0 h1 =>
 iteB t0 (
 Q false h1
 ) (
 seq (fun (K0u1 : Bool → Heap → Prop) =>
 iteB ((s0.2.2.2.2.2.2.2.2.2.2.2.1.len : Int) != s0.1) (
 K0u1 true h1
 ) (
 iteB ((s0.2.2.2.2.2.2.2.2.2.2.2.2.2.2.2.2.2.1.len : Int) != s0.1) (
 K0u1 true h1
 ) (
 iteB ((s0.2.2.2.2.2.2.2.2.2.2.2.2.2.2.2.2.2.2.2.2.2.2.2.2.2.2.1.len : Int) != s0.1) (
 K0u1 true h1
 ) (
 iteB ((s0.2.2.2.2.2.2.2.2.2.2.2.2.2.2.2.2.2.2.2.2.2.1.len : Int) != reals) (
 K0u1 true h1
 ) (
 K0u1 ((s0.2.2.2.2.2.2.2.2.2.2.2.2.2.2.2.2.2.2.2.2.1.len : Int) != (s0.2.2.1.len : Int)) h1
 )
 )
 )
 )
 ) (fun t0u1 h6 =>
 iteB t0u1 (
 Q false h6
 ) (
 seq (fun (K0u2 : Bool → Heap → Prop) =>
 iteB (decide (s0.2.2.2.2.2.2.2.2.2.2.2.2.2.2.2.2.2.2.2.2.2.2.2.2.2.1 < 0)) (
 K0u2 true h6
 ) (
 iteB (decide (s0.2.2.2.2.2.2.2.2.2.2.2.2.2.2.2.2.2.2.2.2.2.2.2.2.2.1 > (s0.2.2.2.2.2.2.2.2.2.2.2.2.2.2.1.len : Int))) (
 K0u2 true h6
 ) (
 iteB (decide (s0.2.2.2.2.2.2.2.2.2.2.2.2.2.2.2.2.2.2.2.2.2.2.2.2.2.2.2.2.2.2.2.2 < 0)) (
 K0u2 true h6
 ) (
 K0u2 (decide (s0.2.2.2.2.2.2.2.2.2.2.2.2.2.2.2.2.2.2.2.2.2.2.2.2.2.2.2.2.2.2.2.2 > 4)) h6
 )
 )
 )
 ) (fun t0u2 h7 =>
 iteB t0u2 (
 Q false h7
 ) (
 seq (fun (K0u3 : Bool → Heap → Prop) =>
 ja s0 h7 fun v_4 h9 =>
 iteB v_4 (
 jc s0 h9 fun v_5 h10 =>
 iteB v_5 (
 K0u3 (decide ((mn (mn (mn (mn s0.2.2.2.2.2.2.2.2.2.2.2.2.2.2.2.2.2.2.2.2.2.2.2.2.2.2.2.1 s0.2.2.2.2.2.2.2.2.2.2.2.2.2.2.2.2.2.2.2.2.2.2.2.2.2.2.2.2.1) s0.2.2.2.2.2.2.2.2.2.2.2.2.2.2.2.2.2.2.2.2.2.2.2.2.2.2.2.2.2.1) s0.2.2.2.2.2.2.2.2.2.2.2.2.2.2.2.2.2.2.2.2.2.2.2.2.2.2.2.2.2.2.1) s0.2.2.2.2.2.2.2.2.2.2.2.2.2.2.2.2.2.2.2.2.2.2.2.2.2.2.2.2.2.2.2.1) ≥ 0)) h10
 ) (
 K0u3 false h10
 )
 ) (
 K0u3 false h9
 )
 ) (fun t0u3 h8 =>
 Q t0u3 h8
 )
 )
 )
 )
 )
 )
 )
def eX (b : Sl) (h : Heap) (Q : ((Int × Int × Sl × Sl × Sl × Sl × Sl × Int × Int × Sl × Sl × Sl × Sl × Sl × Sl × Sl × Int × Sl × Sl × Sl × Sl × Sl × Sl × Sl × Sl × Int × Sl × Int × Int × Int × Int × Int × Int) × Int) → Heap → Prop) : Prop :=
 mem h fun h0 =>
 xn b h0 fun v h1 =>
 mem h1 fun h2 =>
 aR v h2 fun v_1 h3 =>
 iteB (v_1 != 1) (
 Q ((0, 0, Sl.nil, Sl.nil, Sl.nil, Sl.nil, Sl.nil, 0, 0, Sl.nil, Sl.nil, Sl.nil, Sl.nil, Sl.nil, Sl.nil, Sl.nil, 0, Sl.nil, Sl.nil, Sl.nil, Sl.nil, Sl.nil, Sl.nil, Sl.nil, Sl.nil, 0, Sl.nil, 0, 0, 0, 0, 0, 0), 3) h3
 ) (
 jI v h3 fun v_2 h4 =>
 mem h4 fun h5 =>
 seq (fun (K0 : Bool → Heap → Prop) =>
 lM v h5 fun v_3 h7 =>
 iteB (v_3 != 0) (
 K0 true h7
 ) (
 nO (v_2.1, v_2.2.1, v_2.2.2.1, v_2.2.2.2.1, v_2.2.2.2.2.1, v_2.2.2.2.2.2.1, v_2.2.2.2.2.2.2.1) h7 fun v_4 h8 =>
 iteB (!v_4) (
 K0 true h8
 ) (
 fO v_2 h8 fun v_5 h9 =>
 K0 (!v_5) h9
 )
 )
 ) (fun t0 h6 =>
 iteB t0 (
 Q ((0, 0, Sl.nil, Sl.nil, Sl.nil, Sl.nil, Sl.nil, 0, 0, Sl.nil, Sl.nil, Sl.nil, Sl.nil, Sl.nil, Sl.nil, Sl.nil, 0, Sl.nil, Sl.nil, Sl.nil, Sl.nil, Sl.nil, Sl.nil, Sl.nil, Sl.nil, 0, Sl.nil, 0, 0, 0, 0, 0, 0), 3) h6
 ) (
 Q (v_2, 0) h6
 )
 )
 )
def jE (bools : Int) (h : Heap) (Q : (Sl × Sl × Sl × Sl × Sl × Sl × Sl × Int) → Heap → Prop) : Prop :=
 mem h fun h0 =>
 Let ((if 0 > (if 1048576 < bools then 1048576 else bools) then 0 else (if 1048576 < bools then 1048576 else bools)) : Int) fun n =>
 seq (fun (K0 : (Sl × Sl × Sl × Sl × Sl × Sl × Sl × Int) → Heap → Prop) =>
 mem h0 fun h2 =>
 (
 mkS [Sl.toV Sl.nil] 24 (IntKind.wrap .i64 (2 * n)) (IntKind.wrap .i64 (2 * n)) h2 fun v_196 h395 =>
 mem h395 fun h396 =>
 (
 mkS [Value.int .i64 0] 8 n n h396 fun v_197 h397 =>
 mem h397 fun h398 =>
 (
 mkS [Value.int .i64 0] 8 n n h398 fun v_198 h399 =>
 mem h399 fun h400 =>
 mkS [Value.int .i64 0] 8 n n h400 fun v_199 h401 =>
 mem h401 fun h402 =>
 K0 (Sl.nil, v_196, v_197, v_198, v_199, Sl.nil, Sl.nil, 0) h402
 ) ∧ (
 mkS [Value.int .i64 0] 8 n n h398 fun v_200 h403 =>
 mem h403 fun h404 =>
 mkS [Value.int .i64 0] 8 n n h404 fun v_201 h405 =>
 mem h405 fun h406 =>
 K0 (Sl.nil, v_196, v_197, v_201, v_200, Sl.nil, Sl.nil, 0) h406
 )
 ) ∧ (
 mkS [Value.int .i64 0] 8 n n h396 fun v_202 h407 =>
 mem h407 fun h408 =>
 (
 mkS [Value.int .i64 0] 8 n n h408 fun v_203 h409 =>
 mem h409 fun h410 =>
 mkS [Value.int .i64 0] 8 n n h410 fun v_204 h411 =>
 mem h411 fun h412 =>
 K0 (Sl.nil, v_196, v_203, v_202, v_204, Sl.nil, Sl.nil, 0) h412
 ) ∧ (
 mkS [Value.int .i64 0] 8 n n h408 fun v_205 h413 =>
 mem h413 fun h414 =>
 mkS [Value.int .i64 0] 8 n n h414 fun v_206 h415 =>
 mem h415 fun h416 =>
 K0 (Sl.nil, v_196, v_206, v_202, v_205, Sl.nil, Sl.nil, 0) h416
 )
 ) ∧ (
 mkS [Value.int .i64 0] 8 n n h396 fun v_207 h417 =>
 mem h417 fun h418 =>
 (
 mkS [Value.int .i64 0] 8 n n h418 fun v_208 h419 =>
 mem h419 fun h420 =>
 mkS [Value.int .i64 0] 8 n n h420 fun v_209 h421 =>
 mem h421 fun h422 =>
 K0 (Sl.nil, v_196, v_208, v_209, v_207, Sl.nil, Sl.nil, 0) h422
 ) ∧ (
 mkS [Value.int .i64 0] 8 n n h418 fun v_210 h423 =>
 mem h423 fun h424 =>
 mkS [Value.int .i64 0] 8 n n h424 fun v_211 h425 =>
 mem h425 fun h426 =>
 K0 (Sl.nil, v_196, v_211, v_210, v_207, Sl.nil, Sl.nil, 0) h426
 )
 )
 ) ∧ (
 mkS [Value.int .i64 0] 8 n n h2 fun v_212 h427 =>
 mem h427 fun h428 =>
 (
 mkS [Sl.toV Sl.nil] 24 (IntKind.wrap .i64 (2 * n)) (IntKind.wrap .i64 (2 * n)) h428 fun v_213 h429 =>
 mem h429 fun h430 =>
 (
 mkS [Value.int .i64 0] 8 n n h430 fun v_214 h431 =>
 mem h431 fun h432 =>
 mkS [Value.int .i64 0] 8 n n h432 fun v_215 h433 =>
 mem h433 fun h434 =>
 K0 (Sl.nil, v_213, v_212, v_214, v_215, Sl.nil, Sl.nil, 0) h434
 ) ∧ (
 mkS [Value.int .i64 0] 8 n n h430 fun v_216 h435 =>
 mem h435 fun h436 =>
 mkS [Value.int .i64 0] 8 n n h436 fun v_217 h437 =>
 mem h437 fun h438 =>
 K0 (Sl.nil, v_213, v_212, v_217, v_216, Sl.nil, Sl.nil, 0) h438
 )
 ) ∧ (
 mkS [Value.int .i64 0] 8 n n h428 fun v_218 h439 =>
 mem h439 fun h440 =>
 (
 mkS [Sl.toV Sl.nil] 24 (IntKind.wrap .i64 (2 * n)) (IntKind.wrap .i64 (2 * n)) h440 fun v_219 h441 =>
 mem h441 fun h442 =>
 mkS [Value.int .i64 0] 8 n n h442 fun v_220 h443 =>
 mem h443 fun h444 =>
 K0 (Sl.nil, v_219, v_212, v_218, v_220, Sl.nil, Sl.nil, 0) h444
 ) ∧ (
 mkS [Value.int .i64 0] 8 n n h440 fun v_221 h445 =>
 mem h445 fun h446 =>
 mkS [Sl.toV Sl.nil] 24 (IntKind.wrap .i64 (2 * n)) (IntKind.wrap .i64 (2 * n)) h446 fun v_222 h447 =>
 mem h447 fun h448 =>
 K0 (Sl.nil, v_222, v_212, v_218, v_221, Sl.nil, Sl.nil, 0) h448
 )
 ) ∧ (
 mkS [Value.int .i64 0] 8 n n h428 fun v_223 h449 =>
 mem h449 fun h450 =>
 (
 mkS [Sl.toV Sl.nil] 24 (IntKind.wrap .i64 (2 * n)) (IntKind.wrap .i64 (2 * n)) h450 fun v_224 h451 =>
 mem h451 fun h452 =>
 mkS [Value.int .i64 0] 8 n n h452 fun v_225 h453 =>
 mem h453 fun h454 =>
 K0 (Sl.nil, v_224, v_212, v_225, v_223, Sl.nil, Sl.nil, 0) h454
 ) ∧ (
 mkS [Value.int .i64 0] 8 n n h450 fun v_226 h455 =>
 mem h455 fun h456 =>
 mkS [Sl.toV Sl.nil] 24 (IntKind.wrap .i64 (2 * n)) (IntKind.wrap .i64 (2 * n)) h456 fun v_227 h457 =>
 mem h457 fun h458 =>
 K0 (Sl.nil, v_227, v_212, v_226, v_223, Sl.nil, Sl.nil, 0) h458
 )
 )
 ) ∧ (
 mkS [Value.int .i64 0] 8 n n h2 fun v_228 h459 =>
 mem h459 fun h460 =>
 (
 mkS [Sl.toV Sl.nil] 24 (IntKind.wrap .i64 (2 * n)) (IntKind.wrap .i64 (2 * n)) h460 fun v_229 h461 =>
 mem h461 fun h462 =>
 (
 mkS [Value.int .i64 0] 8 n n h462 fun v_230 h463 =>
 mem h463 fun h464 =>
 mkS [Value.int .i64 0] 8 n n h464 fun v_231 h465 =>
 mem h465 fun h466 =>
 K0 (Sl.nil, v_229, v_230, v_228, v_231, Sl.nil, Sl.nil, 0) h466
 ) ∧ (
 mkS [Value.int .i64 0] 8 n n h462 fun v_232 h467 =>
 mem h467 fun h468 =>
 mkS [Value.int .i64 0] 8 n n h468 fun v_233 h469 =>
 mem h469 fun h470 =>
 K0 (Sl.nil, v_229, v_233, v_228, v_232, Sl.nil, Sl.nil, 0) h470
 )
 ) ∧ (
 mkS [Value.int .i64 0] 8 n n h460 fun v_234 h471 =>
 mem h471 fun h472 =>
 (
 mkS [Sl.toV Sl.nil] 24 (IntKind.wrap .i64 (2 * n)) (IntKind.wrap .i64 (2 * n)) h472 fun v_235 h473 =>
 mem h473 fun h474 =>
 mkS [Value.int .i64 0] 8 n n h474 fun v_236 h475 =>
 mem h475 fun h476 =>
 K0 (Sl.nil, v_235, v_234, v_228, v_236, Sl.nil, Sl.nil, 0) h476
 ) ∧ (
 mkS [Value.int .i64 0] 8 n n h472 fun v_237 h477 =>
 mem h477 fun h478 =>
 mkS [Sl.toV Sl.nil] 24 (IntKind.wrap .i64 (2 * n)) (IntKind.wrap .i64 (2 * n)) h478 fun v_238 h479 =>
 mem h479 fun h480 =>
 K0 (Sl.nil, v_238, v_234, v_228, v_237, Sl.nil, Sl.nil, 0) h480
 )
 ) ∧ (
 mkS [Value.int .i64 0] 8 n n h460 fun v_239 h481 =>
 mem h481 fun h482 =>
 (
 mkS [Sl.toV Sl.nil] 24 (IntKind.wrap .i64 (2 * n)) (IntKind.wrap .i64 (2 * n)) h482 fun v_240 h483 =>
 mem h483 fun h484 =>
 mkS [Value.int .i64 0] 8 n n h484 fun v_241 h485 =>
 mem h485 fun h486 =>
 K0 (Sl.nil, v_240, v_241, v_228, v_239, Sl.nil, Sl.nil, 0) h486
 ) ∧ (
 mkS [Value.int .i64 0] 8 n n h482 fun v_242 h487 =>
 mem h487 fun h488 =>
 mkS [Sl.toV Sl.nil] 24 (IntKind.wrap .i64 (2 * n)) (IntKind.wrap .i64 (2 * n)) h488 fun v_243 h489 =>
 mem h489 fun h490 =>
 K0 (Sl.nil, v_243, v_242, v_228, v_239, Sl.nil, Sl.nil, 0) h490
 )
 )
 ) ∧ (
 mkS [Value.int .i64 0] 8 n n h2 fun v_244 h491 =>
 mem h491 fun h492 =>
 (
 mkS [Sl.toV Sl.nil] 24 (IntKind.wrap .i64 (2 * n)) (IntKind.wrap .i64 (2 * n)) h492 fun v_245 h493 =>
 mem h493 fun h494 =>
 (
 mkS [Value.int .i64 0] 8 n n h494 fun v_246 h495 =>
 mem h495 fun h496 =>
 mkS [Value.int .i64 0] 8 n n h496 fun v_247 h497 =>
 mem h497 fun h498 =>
 K0 (Sl.nil, v_245, v_246, v_247, v_244, Sl.nil, Sl.nil, 0) h498
 ) ∧ (
 mkS [Value.int .i64 0] 8 n n h494 fun v_248 h499 =>
 mem h499 fun h500 =>
 mkS [Value.int .i64 0] 8 n n h500 fun v_249 h501 =>
 mem h501 fun h502 =>
 K0 (Sl.nil, v_245, v_249, v_248, v_244, Sl.nil, Sl.nil, 0) h502
 )
 ) ∧ (
 mkS [Value.int .i64 0] 8 n n h492 fun v_250 h503 =>
 mem h503 fun h504 =>
 (
 mkS [Sl.toV Sl.nil] 24 (IntKind.wrap .i64 (2 * n)) (IntKind.wrap .i64 (2 * n)) h504 fun v_251 h505 =>
 mem h505 fun h506 =>
 mkS [Value.int .i64 0] 8 n n h506 fun v_252 h507 =>
 mem h507 fun h508 =>
 K0 (Sl.nil, v_251, v_250, v_252, v_244, Sl.nil, Sl.nil, 0) h508
 ) ∧ (
 mkS [Value.int .i64 0] 8 n n h504 fun v_253 h509 =>
 mem h509 fun h510 =>
 mkS [Sl.toV Sl.nil] 24 (IntKind.wrap .i64 (2 * n)) (IntKind.wrap .i64 (2 * n)) h510 fun v_254 h511 =>
 mem h511 fun h512 =>
 K0 (Sl.nil, v_254, v_250, v_253, v_244, Sl.nil, Sl.nil, 0) h512
 )
 ) ∧ (
 mkS [Value.int .i64 0] 8 n n h492 fun v_255 h513 =>
 mem h513 fun h514 =>
 (
 mkS [Sl.toV Sl.nil] 24 (IntKind.wrap .i64 (2 * n)) (IntKind.wrap .i64 (2 * n)) h514 fun v_256 h515 =>
 mem h515 fun h516 =>
 mkS [Value.int .i64 0] 8 n n h516 fun v_257 h517 =>
 mem h517 fun h518 =>
 K0 (Sl.nil, v_256, v_257, v_255, v_244, Sl.nil, Sl.nil, 0) h518
 ) ∧ (
 mkS [Value.int .i64 0] 8 n n h514 fun v_258 h519 =>
 mem h519 fun h520 =>
 mkS [Sl.toV Sl.nil] 24 (IntKind.wrap .i64 (2 * n)) (IntKind.wrap .i64 (2 * n)) h520 fun v_259 h521 =>
 mem h521 fun h522 =>
 K0 (Sl.nil, v_259, v_258, v_255, v_244, Sl.nil, Sl.nil, 0) h522
 )
 )
 )
 ) (fun t0 h1 =>
 loop (fun (s0 : Int) h523 (K0u1 : Int → Heap → Prop) =>
 iteB (decide (s0 < (t0.2.2.2.2.1.len : Int))) (
 idxS t0.2.2.2.2.1 s0 1 fun a =>
 Lift.amL a (Value.int .i64 (-1)) h523 fun h524 =>
 K0u1 (IntKind.wrap .i64 (s0 + 1)) h524
 ) (
 Q t0 h523
 )
 ) 0 h1
 )
def fD (n : Int) (h : Heap) (Q : (Sl × Sl) → Heap → Prop) : Prop :=
 mem h fun h0 =>
 Let ((if 0 > (if 1048576 < n then 1048576 else n) then 0 else (if 1048576 < n then 1048576 else n)) : Int) fun n_1 =>
 mkS [Value.int .i64 0] 8 n_1 n_1 h0 fun v h1 =>
 mem h1 fun h2 =>
 loop (fun (s0 : Int × Sl × Sl) h3 (K0 : (Int × Sl × Sl) → Heap → Prop) =>
 iteB (decide (s0.1 < n_1)) (
 new [Value.int .i64 s0.1] h3 fun a h4 =>
 aP 1 8 s0.2.2 (⟨some a, 1, 1⟩ : Sl) h4 fun v_2 h5 =>
 K0 (IntKind.wrap .i64 (s0.1 + 1), s0.2.1, v_2) h5
 ) (
 Q (s0.2.1, s0.2.2) h3
 )
 ) (0, v, Sl.nil) h2
def fM (s0 : Sl) (h : Heap) (Q : Sl → Heap → Prop) : Prop :=
 iteB s0.a.isNone (
 Q Sl.nil h
 ) (
 new [] h fun a h0 =>
 aP 4 80 (⟨some a, 0, 0⟩ : Sl) s0 h0 fun v_1 h1 =>
 Q v_1 h1
 )
def aX (p : Int × Int × Sl × Sl × Sl × Sl × Sl) (h : Heap) (Q : (Sl × Sl × Sl × Sl × Sl) → Heap → Prop) : Prop :=
 mem h fun h0 =>
 Let (IntKind.wrap .i64 (p.2.1 + (p.2.2.1.len : Int)) : Int) fun n =>
 loop (fun (s0 : Int × Sl × Sl × Sl × Sl × Sl) h1 (K0 : (Int × Sl × Sl × Sl × Sl × Sl) → Heap → Prop) =>
 iteB (decide (s0.1 < (p.2.2.1.len : Int))) (
 new [Value.int .i64 (IntKind.wrap .i64 (p.2.1 + s0.1))] h1 fun a h2 =>
 aP 1 8 s0.2.1 (⟨some a, 1, 1⟩ : Sl) h2 fun v_1 h3 =>
 K0 (IntKind.wrap .i64 (s0.1 + 1), v_1, s0.2.2.1, s0.2.2.2.1, s0.2.2.2.2.1, s0.2.2.2.2.2) h3
 ) (
 fM p.2.2.1 h1 fun v_2 h4 =>
 seq (fun (K0u1 : (Sl × Sl × Sl × Sl × Sl) → Heap → Prop) =>
 (
 mkS [Value.bool false, Sl.toV Sl.nil, Sl.toV Sl.nil, Value.bool false, Sl.toV Sl.nil, Sl.toV Sl.nil] 112 n n h4 fun v_3 h6 =>
 (
 mkS [Value.int .i64 0, Value.bool false, Sl.toV Sl.nil, Sl.toV Sl.nil, Value.bool false, Sl.toV Sl.nil, Sl.toV Sl.nil] 120 n n h6 fun v_11 h14 =>
 mkS [Value.int .i64 0, Value.bool false, Sl.toV Sl.nil, Sl.toV Sl.nil, Value.bool false, Sl.toV Sl.nil, Sl.toV Sl.nil] 120 n n h14 fun v_13 h16 =>
 K0u1 (s0.2.1, v_2, v_3, v_11, v_13) h16
 ) ∧ (
 mkS [Value.int .i64 0, Value.bool false, Sl.toV Sl.nil, Sl.toV Sl.nil, Value.bool false, Sl.toV Sl.nil, Sl.toV Sl.nil] 120 n n h6 fun v_14 h17 =>
 mkS [Value.int .i64 0, Value.bool false, Sl.toV Sl.nil, Sl.toV Sl.nil, Value.bool false, Sl.toV Sl.nil, Sl.toV Sl.nil] 120 n n h17 fun v_15 h18 =>
 K0u1 (s0.2.1, v_2, v_3, v_15, v_14) h18
 )
 ) ∧ (
 mkS [Value.int .i64 0, Value.bool false, Sl.toV Sl.nil, Sl.toV Sl.nil, Value.bool false, Sl.toV Sl.nil, Sl.toV Sl.nil] 120 n n h4 fun v_16 h19 =>
 (
 mkS [Value.bool false, Sl.toV Sl.nil, Sl.toV Sl.nil, Value.bool false, Sl.toV Sl.nil, Sl.toV Sl.nil] 112 n n h19 fun v_17 h20 =>
 mkS [Value.int .i64 0, Value.bool false, Sl.toV Sl.nil, Sl.toV Sl.nil, Value.bool false, Sl.toV Sl.nil, Sl.toV Sl.nil] 120 n n h20 fun v_20 h23 =>
 K0u1 (s0.2.1, v_2, v_17, v_16, v_20) h23
 ) ∧ (
 mkS [Value.int .i64 0, Value.bool false, Sl.toV Sl.nil, Sl.toV Sl.nil, Value.bool false, Sl.toV Sl.nil, Sl.toV Sl.nil] 120 n n h19 fun v_21 h24 =>
 mkS [Value.bool false, Sl.toV Sl.nil, Sl.toV Sl.nil, Value.bool false, Sl.toV Sl.nil, Sl.toV Sl.nil] 112 n n h24 fun v_22 h25 =>
 K0u1 (s0.2.1, v_2, v_22, v_16, v_21) h25
 )
 ) ∧ (
 mkS [Value.int .i64 0, Value.bool false, Sl.toV Sl.nil, Sl.toV Sl.nil, Value.bool false, Sl.toV Sl.nil, Sl.toV Sl.nil] 120 n n h4 fun v_23 h26 =>
 (
 mkS [Value.bool false, Sl.toV Sl.nil, Sl.toV Sl.nil, Value.bool false, Sl.toV Sl.nil, Sl.toV Sl.nil] 112 n n h26 fun v_24 h27 =>
 mkS [Value.int .i64 0, Value.bool false, Sl.toV Sl.nil, Sl.toV Sl.nil, Value.bool false, Sl.toV Sl.nil, Sl.toV Sl.nil] 120 n n h27 fun v_26 h29 =>
 K0u1 (s0.2.1, v_2, v_24, v_26, v_23) h29
 ) ∧ (
 mkS [Value.int .i64 0, Value.bool false, Sl.toV Sl.nil, Sl.toV Sl.nil, Value.bool false, Sl.toV Sl.nil, Sl.toV Sl.nil] 120 n n h26 fun v_27 h30 =>
 mkS [Value.bool false, Sl.toV Sl.nil, Sl.toV Sl.nil, Value.bool false, Sl.toV Sl.nil, Sl.toV Sl.nil] 112 n n h30 fun v_28 h31 =>
 K0u1 (s0.2.1, v_2, v_28, v_27, v_23) h31
 )
 )
 ) (fun t0 h5 =>
 Q t0 h5
 )
 )
 ) (0, Sl.nil, Sl.nil, Sl.nil, Sl.nil, Sl.nil) h0
def uH (lits : Sl) (h : Heap) (Q : (Sl × Bool) → Heap → Prop) : Prop :=
 loop (fun (s0 : Sl × Int) h0 (K0 : (Sl × Int) → Heap → Prop) =>
 iteB (decide (s0.2 < (lits.len : Int))) (
 seq (fun (K0u1 : Sl → Heap → Prop) =>
 idxS lits s0.2 1 fun a =>
 Lift.load (Value.int .i64) a h0 fun v =>
 aC s0.1 (IntKind.wrap .i64 (0 - v)) h0 fun v_1 h2 =>
 iteB v_1 (
 Q (Sl.nil, false) h2
 ) (
 aC s0.1 v h2 fun v_2 h3 =>
 iteB (!v_2) (
 new [Value.int .i64 v] h3 fun a_1 h4 =>
 aP 1 8 s0.1 (⟨some a_1, 1, 1⟩ : Sl) h4 fun v_4 h5 =>
 K0u1 v_4 h5
 ) (
 K0u1 s0.1 h3
 )
 )
 ) (fun t0 h1 =>
 K0 (t0, IntKind.wrap .i64 (s0.2 + 1)) h1
 )
 ) (
 Q (s0.1, true) h0
 )
 ) (Sl.nil, 0) h
def kw (s0 : Sl) (h : Heap) (Q : Sl → Heap → Prop) : Prop :=
 iteB s0.a.isNone (
 Q Sl.nil h
 ) (
 new [] h fun a h0 =>
 aP 1 8 (⟨some a, 0, 0⟩ : Sl) s0 h0 fun v_1 h1 =>
 Q v_1 h1
 )
def xH (s0 : (Option Addr)) (at0 : Int) (h : Heap) (Q : Unit → Heap → Prop) : Prop :=
 ah s0 fun a =>
 Lift.load Sl.toV (a.add 0) h fun v =>
 idxS v at0 3 fun a_1 =>
 Lift.load Sl.toV (a_1.add 0) h fun v_1 =>
 ki v_1 none (some 2) none 1 fun v_2 =>
 loop (fun (s0u1 : Int) h0 (K0 : Int → Heap → Prop) =>
 iteB (decide (s0u1 < (v_2.len : Int))) (
 seq (fun (K0u1 : Unit → Heap → Prop) =>
 idxS v_2 s0u1 1 fun a_2 =>
 Lift.load (Value.int .i64) a_2 h0 fun v_3 =>
 ah s0 fun a_3 =>
 Lift.load Sl.toV (a_3.add 1) h0 fun v_4 =>
 ah s0 fun a_4 =>
 Lift.load Sl.toV (a_4.add 1) h0 fun v_5 =>
 (
 fh v_3 h0 fun v_6 h2 =>
 (cell? h2 (a_3.add 1) = some (Sl.toV v_4)) ∧
 (cell? h2 (a_4.add 1) = some (Sl.toV v_5)) ∧
 (
 fh v_3 h2 fun v_7 h3 =>
 (cell? h3 (a_3.add 1) = some (Sl.toV v_4)) ∧
 (cell? h3 (a_4.add 1) = some (Sl.toV v_5)) ∧
 idxS v_5 v_7 1 fun a_5 =>
 Lift.load Sl.toV a_5 h3 fun v_8 =>
 new [Value.int .i64 at0] h3 fun a_6 h4 =>
 (cell? h4 (a_3.add 1) = some (Sl.toV v_4)) ∧
 (cell? h4 (a_4.add 1) = some (Sl.toV v_5)) ∧
 (cell? h4 a_5 = some (Sl.toV v_8)) ∧
 aP 1 8 v_8 (⟨some a_6, 1, 1⟩ : Sl) h4 fun v_10 h5 =>
 (cell? h5 (a_3.add 1) = some (Sl.toV v_4)) ∧
 idxS v_4 v_6 1 fun a_7 =>
 Lift.amL a_7 (Sl.toV v_10) h5 fun h6 =>
 K0u1 () h6
 ) ∧ (
 new [Value.int .i64 at0] h2 fun a_8 h7 =>
 (cell? h7 (a_3.add 1) = some (Sl.toV v_4)) ∧
 (cell? h7 (a_4.add 1) = some (Sl.toV v_5)) ∧
 fh v_3 h7 fun v_12 h8 =>
 (cell? h8 (a_3.add 1) = some (Sl.toV v_4)) ∧
 (cell? h8 (a_4.add 1) = some (Sl.toV v_5)) ∧
 idxS v_5 v_12 1 fun a_9 =>
 Lift.load Sl.toV a_9 h8 fun v_13 =>
 aP 1 8 v_13 (⟨some a_8, 1, 1⟩ : Sl) h8 fun v_14 h9 =>
 (cell? h9 (a_3.add 1) = some (Sl.toV v_4)) ∧
 idxS v_4 v_6 1 fun a_10 =>
 Lift.amL a_10 (Sl.toV v_14) h9 fun h10 =>
 K0u1 () h10
 )
 ) ∧ (
 new [Value.int .i64 at0] h0 fun a_11 h11 =>
 (cell? h11 (a_3.add 1) = some (Sl.toV v_4)) ∧
 (cell? h11 (a_4.add 1) = some (Sl.toV v_5)) ∧
 fh v_3 h11 fun v_16 h12 =>
 (cell? h12 (a_3.add 1) = some (Sl.toV v_4)) ∧
 (cell? h12 (a_4.add 1) = some (Sl.toV v_5)) ∧
 fh v_3 h12 fun v_17 h13 =>
 (cell? h13 (a_3.add 1) = some (Sl.toV v_4)) ∧
 (cell? h13 (a_4.add 1) = some (Sl.toV v_5)) ∧
 idxS v_5 v_17 1 fun a_12 =>
 Lift.load Sl.toV a_12 h13 fun v_18 =>
 aP 1 8 v_18 (⟨some a_11, 1, 1⟩ : Sl) h13 fun v_19 h14 =>
 (cell? h14 (a_3.add 1) = some (Sl.toV v_4)) ∧
 idxS v_4 v_16 1 fun a_13 =>
 Lift.amL a_13 (Sl.toV v_19) h14 fun h15 =>
 K0u1 () h15
 )
 ) (fun t0 h1 =>
 K0 (IntKind.wrap .i64 (s0u1 + 1)) h1
 )
 ) (
 Q () h0
 )
 ) 0 h
def aa8 (s0 : (Option Addr)) (lits : Sl) (learned : Bool) (h : Heap) (Q : (Int × Int) → Heap → Prop) : Prop :=
 jB s0 lits h fun v h0 =>
 iteB (!v) (
 Q (0, 1) h0
 ) (
 ah s0 fun a =>
 Lift.load Sl.toV (a.add 0) h0 fun v_1 =>
 Let ((v_1.len : Int) : Int) fun at0 =>
 ah s0 fun a_1 =>
 Lift.load Sl.toV (a_1.add 0) h0 fun v_2 =>
 kw lits h0 fun v_3 h1 =>
 (cell? h1 (a_1.add 0) = some (Sl.toV v_2)) ∧
 new [Sl.toV v_3, Value.bool learned, Value.int .i64 0] h1 fun a_2 h2 =>
 (cell? h2 (a_1.add 0) = some (Sl.toV v_2)) ∧
 aP 3 40 v_2 (⟨some a_2, 1, 1⟩ : Sl) h2 fun v_5 h3 =>
 ah s0 fun a_3 =>
 Lift.amL (a_3.add 0) (Sl.toV v_5) h3 fun h4 =>
 xH s0 at0 h4 fun v_6 h5 =>
 Q (at0, 0) h5
 )
def aaK (s0 : (Option Addr)) (lit : Int) (reason : Int) (h : Heap) (Q : Unit → Heap → Prop) : Prop :=
 aM lit h fun v h0 =>
 ah s0 fun a =>
 Lift.load Sl.toV (a.add 2) h0 fun v_1 =>
 ah s0 fun a_1 =>
 Lift.load Sl.toV (a_1.add 3) h0 fun v_2 =>
 ah s0 fun a_2 =>
 Lift.load Sl.toV (a_2.add 4) h0 fun v_3 =>
 ah s0 fun a_3 =>
 Lift.load Sl.toV (a_3.add 6) h0 fun v_4 =>
 gG lit h0 fun v_5 h1 =>
 (cell? h1 (a.add 2) = some (Sl.toV v_1)) ∧
 (cell? h1 (a_1.add 3) = some (Sl.toV v_2)) ∧
 (cell? h1 (a_2.add 4) = some (Sl.toV v_3)) ∧
 (cell? h1 (a_3.add 6) = some (Sl.toV v_4)) ∧
 idxS v_1 v 1 fun a_4 =>
 Lift.amL a_4 (Value.int .i64 v_5) h1 fun h2 =>
 idxS v_2 v 1 fun a_5 =>
 Lift.amL a_5 (Value.int .i64 (v_4.len : Int)) h2 fun h3 =>
 idxS v_3 v 1 fun a_6 =>
 Lift.amL a_6 (Value.int .i64 reason) h3 fun h4 =>
 ah s0 fun a_7 =>
 Lift.load Sl.toV (a_7.add 5) h4 fun v_6 =>
 new [Value.int .i64 lit] h4 fun a_8 h5 =>
 aP 1 8 v_6 (⟨some a_8, 1, 1⟩ : Sl) h5 fun v_8 h6 =>
 ah s0 fun a_9 =>
 Lift.amL (a_9.add 5) (Sl.toV v_8) h6 fun h7 =>
 Q () h7
def ze (s0 : (Option Addr)) (lit : Int) (reason : Int) (h : Heap) (Q : Bool → Heap → Prop) : Prop :=
 seq (fun (K0 : Unit → Heap → Prop) =>
 seq (fun (K0u1 : Bool → Heap → Prop) =>
 eS s0 lit h fun v h2 =>
 iteB (!v) (
 K0u1 true h2
 ) (
 ah s0 fun a =>
 cg ag 8 a h2 fun v_1 =>
 gH v_1 lit h2 fun v_2 h3 =>
 K0u1 (decide (v_2 < 0)) h3
 )
 ) (fun t0u1 h1 =>
 iteB t0u1 (
 Q false h1
 ) (
 ah s0 fun a_1 =>
 cg ag 8 a_1 h1 fun v_3 =>
 gH v_3 lit h1 fun v_4 h4 =>
 iteB (v_4 == 0) (
 aaK s0 lit reason h4 fun v_5 h5 =>
 K0 () h5
 ) (
 K0 () h4
 )
 )
 )
 ) (fun t0 h0 =>
 Q true h0
 )
abbrev Z33 : List Value := [Value.int .i64 0, Value.int .i64 0, Sl.toV Sl.nil, Sl.toV Sl.nil, Sl.toV Sl.nil, Sl.toV Sl.nil, Sl.toV Sl.nil, Value.int .i64 0, Value.int .i64 0, Sl.toV Sl.nil, Sl.toV Sl.nil, Sl.toV Sl.nil, Sl.toV Sl.nil, Sl.toV Sl.nil, Sl.toV Sl.nil, Sl.toV Sl.nil, Value.int .i64 0, Sl.toV Sl.nil, Sl.toV Sl.nil, Sl.toV Sl.nil, Sl.toV Sl.nil, Sl.toV Sl.nil, Sl.toV Sl.nil, Sl.toV Sl.nil, Sl.toV Sl.nil, Value.int .i64 0, Sl.toV Sl.nil, Value.int .i64 0, Value.int .i64 0, Value.int .i64 0, Value.int .i64 0, Value.int .i64 0, Value.int .i64 0]
abbrev W33 (p : Int × Int × Sl × Sl × Sl × Sl × Sl) (l : Int × Int) (a : Sl × Sl × Sl × Sl × Sl × Sl × Sl × Int) (b : Sl × Sl) (c : Sl × Sl × Sl × Sl × Sl) (d : Sl) : List Value := [Value.int .i64 p.1, Value.int .i64 p.2.1, Sl.toV p.2.2.1, Sl.toV p.2.2.2.1, Sl.toV p.2.2.2.2.1, Sl.toV p.2.2.2.2.2.1, Sl.toV p.2.2.2.2.2.2, Value.int .i64 l.1, Value.int .i64 l.2, Sl.toV a.1, Sl.toV a.2.1, Sl.toV a.2.2.1, Sl.toV a.2.2.2.1, Sl.toV a.2.2.2.2.1, Sl.toV a.2.2.2.2.2.1, Sl.toV a.2.2.2.2.2.2.1, Value.int .i64 a.2.2.2.2.2.2.2, Sl.toV b.1, Sl.toV b.2, Sl.toV c.1, Sl.toV c.2.1, Sl.toV c.2.2.1, Sl.toV c.2.2.2.1, Sl.toV c.2.2.2.2, Sl.toV Sl.nil, Value.int .i64 0, Sl.toV d, Value.int .i64 0, Value.int .i64 0, Value.int .i64 0, Value.int .i64 0, Value.int .i64 (IntKind.wrap .i64 (64 + (IntKind.wrap .i64 (Int.tdiv (p.2.2.2.2.1.len : Int) 3)))), Value.int .i64 0]
def mV (p : Int × Int × Sl × Sl × Sl × Sl × Sl) (l : Int × Int) (h : Heap) (Q : ((Int × Int × Sl × Sl × Sl × Sl × Sl × Int × Int × Sl × Sl × Sl × Sl × Sl × Sl × Sl × Int × Sl × Sl × Sl × Sl × Sl × Sl × Sl × Sl × Int × Sl × Int × Int × Int × Int × Int × Int) × Int) → Heap → Prop) : Prop :=
 mem h fun h0 =>
 seq (fun (K0 : Bool → Heap → Prop) =>
 mB p h0 fun v h2 =>
 iteB (!v) (
 K0 true h2
 ) (
 K0 (decide (p.1 > 1048576)) h2
 )
 ) (fun t0 h1 =>
 iteB t0 (
 Q ((0, 0, Sl.nil, Sl.nil, Sl.nil, Sl.nil, Sl.nil, 0, 0, Sl.nil, Sl.nil, Sl.nil, Sl.nil, Sl.nil, Sl.nil, Sl.nil, 0, Sl.nil, Sl.nil, Sl.nil, Sl.nil, Sl.nil, Sl.nil, Sl.nil, Sl.nil, 0, Sl.nil, 0, 0, 0, 0, 0, 0), 1) h1
 ) (
 seq (fun (K0u1 : Addr → Heap → Prop) =>
 (
 jE p.1 h1 fun v_1 h4 =>
 (
 fD p.1 h4 fun v_2 h5 =>
 (
 aX p h5 fun v_3 h6 =>
 (
 mkS [Value.bool false] 1 p.1 p.1 h6 fun v_4 h7 =>
 new Z33 h7 fun s0 h8 =>
 dk s0 (W33 p l v_1 v_2 v_3 v_4) h8 fun h9 =>
 K0u1 s0 h9
 ) ∧ (
 new Z33 h6 fun s0u1 h10 =>
 mkS [Value.bool false] 1 p.1 p.1 h10 fun v_5 h11 =>
 dk s0u1 (W33 p l v_1 v_2 v_3 v_5) h11 fun h12 =>
 K0u1 s0u1 h12
 )
 ) ∧ (
 mkS [Value.bool false] 1 p.1 p.1 h5 fun v_6 h13 =>
 (
 aX p h13 fun v_7 h14 =>
 new Z33 h14 fun s0u2 h15 =>
 dk s0u2 (W33 p l v_1 v_2 v_7 v_6) h15 fun h16 =>
 K0u1 s0u2 h16
 ) ∧ (
 new Z33 h13 fun s0u3 h17 =>
 aX p h17 fun v_8 h18 =>
 dk s0u3 (W33 p l v_1 v_2 v_8 v_6) h18 fun h19 =>
 K0u1 s0u3 h19
 )
 ) ∧ (
 new Z33 h5 fun s0u4 h20 =>
 (
 aX p h20 fun v_9 h21 =>
 mkS [Value.bool false] 1 p.1 p.1 h21 fun v_10 h22 =>
 dk s0u4 (W33 p l v_1 v_2 v_9 v_10) h22 fun h23 =>
 K0u1 s0u4 h23
 ) ∧ (
 mkS [Value.bool false] 1 p.1 p.1 h20 fun v_11 h24 =>
 aX p h24 fun v_12 h25 =>
 dk s0u4 (W33 p l v_1 v_2 v_12 v_11) h25 fun h26 =>
 K0u1 s0u4 h26
 )
 )
 ) ∧ (
 mkS [Value.bool false] 1 p.1 p.1 h4 fun v_13 h27 =>
 (
 fD p.1 h27 fun v_14 h28 =>
 (
 aX p h28 fun v_15 h29 =>
 new Z33 h29 fun s0u5 h30 =>
 dk s0u5 (W33 p l v_1 v_14 v_15 v_13) h30 fun h31 =>
 K0u1 s0u5 h31
 ) ∧ (
 new Z33 h28 fun s0u6 h32 =>
 aX p h32 fun v_16 h33 =>
 dk s0u6 (W33 p l v_1 v_14 v_16 v_13) h33 fun h34 =>
 K0u1 s0u6 h34
 )
 ) ∧ (
 new Z33 h27 fun s0u7 h35 =>
 fD p.1 h35 fun v_17 h36 =>
 aX p h36 fun v_18 h37 =>
 dk s0u7 (W33 p l v_1 v_17 v_18 v_13) h37 fun h38 =>
 K0u1 s0u7 h38
 )
 ) ∧ (
 new Z33 h4 fun s0u8 h39 =>
 (
 fD p.1 h39 fun v_19 h40 =>
 (
 aX p h40 fun v_20 h41 =>
 mkS [Value.bool false] 1 p.1 p.1 h41 fun v_21 h42 =>
 dk s0u8 (W33 p l v_1 v_19 v_20 v_21) h42 fun h43 =>
 K0u1 s0u8 h43
 ) ∧ (
 mkS [Value.bool false] 1 p.1 p.1 h40 fun v_22 h44 =>
 aX p h44 fun v_23 h45 =>
 dk s0u8 (W33 p l v_1 v_19 v_23 v_22) h45 fun h46 =>
 K0u1 s0u8 h46
 )
 ) ∧ (
 mkS [Value.bool false] 1 p.1 p.1 h39 fun v_24 h47 =>
 fD p.1 h47 fun v_25 h48 =>
 aX p h48 fun v_26 h49 =>
 dk s0u8 (W33 p l v_1 v_25 v_26 v_24) h49 fun h50 =>
 K0u1 s0u8 h50
 )
 )
 ) ∧ (
 mkS [Value.bool false] 1 p.1 p.1 h1 fun v_27 h51 =>
 (
 jE p.1 h51 fun v_28 h52 =>
 (
 fD p.1 h52 fun v_29 h53 =>
 (
 aX p h53 fun v_30 h54 =>
 new Z33 h54 fun s0u9 h55 =>
 dk s0u9 (W33 p l v_28 v_29 v_30 v_27) h55 fun h56 =>
 K0u1 s0u9 h56
 ) ∧ (
 new Z33 h53 fun s0u10 h57 =>
 aX p h57 fun v_31 h58 =>
 dk s0u10 (W33 p l v_28 v_29 v_31 v_27) h58 fun h59 =>
 K0u1 s0u10 h59
 )
 ) ∧ (
 new Z33 h52 fun s0u11 h60 =>
 fD p.1 h60 fun v_32 h61 =>
 aX p h61 fun v_33 h62 =>
 dk s0u11 (W33 p l v_28 v_32 v_33 v_27) h62 fun h63 =>
 K0u1 s0u11 h63
 )
 ) ∧ (
 new Z33 h51 fun s0u12 h64 =>
 jE p.1 h64 fun v_34 h65 =>
 fD p.1 h65 fun v_35 h66 =>
 aX p h66 fun v_36 h67 =>
 dk s0u12 (W33 p l v_34 v_35 v_36 v_27) h67 fun h68 =>
 K0u1 s0u12 h68
 )
 ) ∧ (
 new Z33 h1 fun s0u13 h69 =>
 (
 jE p.1 h69 fun v_37 h70 =>
 (
 fD p.1 h70 fun v_38 h71 =>
 (
 aX p h71 fun v_39 h72 =>
 mkS [Value.bool false] 1 p.1 p.1 h72 fun v_40 h73 =>
 dk s0u13 (W33 p l v_37 v_38 v_39 v_40) h73 fun h74 =>
 K0u1 s0u13 h74
 ) ∧ (
 mkS [Value.bool false] 1 p.1 p.1 h71 fun v_41 h75 =>
 aX p h75 fun v_42 h76 =>
 dk s0u13 (W33 p l v_37 v_38 v_42 v_41) h76 fun h77 =>
 K0u1 s0u13 h77
 )
 ) ∧ (
 mkS [Value.bool false] 1 p.1 p.1 h70 fun v_43 h78 =>
 fD p.1 h78 fun v_44 h79 =>
 aX p h79 fun v_45 h80 =>
 dk s0u13 (W33 p l v_37 v_44 v_45 v_43) h80 fun h81 =>
 K0u1 s0u13 h81
 )
 ) ∧ (
 mkS [Value.bool false] 1 p.1 p.1 h69 fun v_46 h82 =>
 jE p.1 h82 fun v_47 h83 =>
 fD p.1 h83 fun v_48 h84 =>
 aX p h84 fun v_49 h85 =>
 dk s0u13 (W33 p l v_47 v_48 v_49 v_46) h85 fun h86 =>
 K0u1 s0u13 h86
 )
 )
 ) (fun t0u1 h3 =>
 loop (fun (s0u14 : Sl × Int) h87 (K0u2 : (Sl × Int) → Heap → Prop) =>
 iteB (decide (s0u14.2 < (p.2.2.2.2.1.len : Int))) (
 seq (fun (K0u3 : Sl → Heap → Prop) =>
 idxS p.2.2.2.2.1 s0u14.2 1 fun a =>
 Lift.load Sl.toV a h87 fun v_50 =>
 uH v_50 h87 fun v_51 h89 =>
 iteB (!v_51.2) (
 K0u3 s0u14.1 h89
 ) (
 iteB ((v_51.1.len : Int) == 0) (
 Lift.amL (t0u1.add 32) (Value.int .i64 2) h89 fun h90 =>
 K0u3 s0u14.1 h90
 ) (
 iteB ((v_51.1.len : Int) == 1) (
 idxS v_51.1 0 1 fun a_1 =>
 Lift.load (Value.int .i64) a_1 h89 fun v_52 =>
 new [Value.int .i64 v_52] h89 fun a_2 h91 =>
 aP 1 8 s0u14.1 (⟨some a_2, 1, 1⟩ : Sl) h91 fun v_54 h92 =>
 K0u3 v_54 h92
 ) (
 aa8 (some (t0u1.add 9)) v_51.1 false h89 fun v_55 h93 =>
 K0u3 s0u14.1 h93
 )
 )
 )
 ) (fun t0u2 h88 =>
 K0u2 (t0u2, IntKind.wrap .i64 (s0u14.2 + 1)) h88
 )
 ) (
 loop (fun (s0u15 : Int) h94 (K0u4 : Int → Heap → Prop) =>
 iteB (decide (s0u15 < (s0u14.1.len : Int))) (
 seq (fun (K0u5 : Unit → Heap → Prop) =>
 idxS s0u14.1 s0u15 1 fun a_3 =>
 Lift.load (Value.int .i64) a_3 h94 fun v_56 =>
 ze (some (t0u1.add 9)) v_56 (-1) h94 fun v_57 h96 =>
 iteB (!v_57) (
 Lift.amL (t0u1.add 32) (Value.int .i64 2) h96 fun h97 =>
 K0u5 () h97
 ) (
 K0u5 () h96
 )
 ) (fun t0u3 h95 =>
 K0u4 (IntKind.wrap .i64 (s0u15 + 1)) h95
 )
 ) (
 cg ae 33 t0u1 h94 fun v_58 =>
 Q (v_58, 0) h94
 )
 ) 0 h87
 )
 ) (Sl.nil, 0) h3
 )
 )
 )
def fJ (o : (Option Addr)) (n : Int) (size : Int) (h : Heap) (Q : Unit → Heap → Prop) : Prop :=
 Let (IntKind.wrap .i64 (size - 1) : Int) fun i =>
 loop (fun (s0 : Int) h0 (K0 : Int → Heap → Prop) =>
 iteB (decide (s0 ≥ 0)) (
 ah o fun a =>
 Lift.load Sl.toV (a.add 0) h0 fun v =>
 (0 ≤ (IntKind.wrap .i64 (8 * s0))) ∧
 new [Value.int .u8 (IntKind.wrap .u8 (Int.fdiv n (2 ^ (min (Int.toNat (IntKind.wrap .i64 (8 * s0))) (IntKind.bits .u64)))))] h0 fun a_1 h1 =>
 (cell? h1 (a.add 0) = some (Sl.toV v)) ∧
 aP 1 1 v (⟨some a_1, 1, 1⟩ : Sl) h1 fun v_2 h2 =>
 ah o fun a_2 =>
 Lift.amL (a_2.add 0) (Sl.toV v_2) h2 fun h3 =>
 Let (IntKind.wrap .i64 (s0 - 1) : Int) fun i_1 =>
 K0 i_1 h3
 ) (
 Q () h0
 )
 ) i h
def ai (o : (Option Addr)) (n : Int) (h : Heap) (Q : Unit → Heap → Prop) : Prop :=
 fJ o (IntKind.wrap .u64 n) 8 h fun v h0 =>
 Q () h0
def i9 (o : (Option Addr)) (is : Bool) (h : Heap) (Q : Unit → Heap → Prop) : Prop :=
 seq (fun (K0 : Int → Heap → Prop) =>
 iteB is (
 K0 1 h
 ) (
 K0 0 h
 )
 ) (fun t0 h0 =>
 fJ o t0 1 h0 fun v h1 =>
 Q () h1
 )
def sB (o : (Option Addr)) (n : Int) (h : Heap) (Q : Unit → Heap → Prop) : Prop :=
 fJ o (IntKind.wrap .u64 n) 4 h fun v h0 =>
 Q () h0
def cU (o : (Option Addr)) (list : Sl) (put_b : (Option Addr)) (h : Heap) (Q : Unit → Heap → Prop) : Prop :=
 ai o (list.len : Int) h fun v h0 =>
 loop (fun (s0 : Int) h1 (K0 : Int → Heap → Prop) =>
 iteB (decide (s0 < (list.len : Int))) (
 idxS list s0 1 fun a =>
 Lift.load (Value.int .u32) a h1 fun v_1 =>
 sB put_b v_1 h1 fun v_2 h2 =>
 K0 (IntKind.wrap .i64 (s0 + 1)) h2
 ) (
 Q () h1
 )
 ) 0 h0
def hZ (o : (Option Addr)) (x0 : Bool × Sl × Sl) (h : Heap) (Q : Unit → Heap → Prop) : Prop :=
 mem h fun h0 =>
 i9 o x0.1 h0 fun v h1 =>
 cU o x0.2.1 o h1 fun v_1 h2 =>
 cU o x0.2.2 o h2 fun v_2 h3 =>
 Q () h3
def rj (o : (Option Addr)) (m0 : Int × Bool × Sl × Sl) (h : Heap) (Q : Unit → Heap → Prop) : Prop :=
 mem h fun h0 =>
 ah o fun a =>
 ai (some (a.add 0)) m0.1 h0 fun v h1 =>
 ah o fun a_1 =>
 hZ (some (a_1.add 0)) (m0.2.1, m0.2.2.1, m0.2.2.2) h1 fun v_1 h2 =>
 Q () h2
def eO (o : (Option Addr)) (list : Sl) (put_b : (Option Addr)) (h : Heap) (Q : Unit → Heap → Prop) : Prop :=
 ai o (list.len : Int) h fun v h0 =>
 loop (fun (s0 : Int) h1 (K0 : Int → Heap → Prop) =>
 iteB (decide (s0 < (list.len : Int))) (
 idxS list s0 4 fun a =>
 cg bd 4 a h1 fun v_1 =>
 mem h1 fun h2 =>
 rj put_b v_1 h2 fun v_2 h3 =>
 K0 (IntKind.wrap .i64 (s0 + 1)) h3
 ) (
 Q () h1
 )
 ) 0 h0
def qY (o : (Option Addr)) (p : Bool × Sl × Sl × Sl) (h : Heap) (Q : Unit → Heap → Prop) : Prop :=
 mem h fun h0 =>
 ah o fun a =>
 hZ (some (a.add 0)) (p.1, p.2.1, p.2.2.1) h0 fun v h1 =>
 ah o fun a_1 =>
 eO (some (a_1.add 0)) p.2.2.2 o h1 fun v_1 h2 =>
 Q () h2
def bH (o : (Option Addr)) (list : Sl) (put_b : (Option Addr)) (h : Heap) (Q : Unit → Heap → Prop) : Prop :=
 ai o (list.len : Int) h fun v h0 =>
 loop (fun (s0 : Int) h1 (K0 : Int → Heap → Prop) =>
 iteB (decide (s0 < (list.len : Int))) (
 idxS list s0 4 fun a =>
 cg cV 4 a h1 fun v_1 =>
 mem h1 fun h2 =>
 qY put_b v_1 h2 fun v_2 h3 =>
 K0 (IntKind.wrap .i64 (s0 + 1)) h3
 ) (
 Q () h1
 )
 ) 0 h0
def gJ (o : (Option Addr)) (l : Sl) (h : Heap) (Q : Unit → Heap → Prop) : Prop :=
 ah o fun a =>
 bH (some (a.add 0)) l o h fun v h0 =>
 Q () h0
def jJ (o : (Option Addr)) (x0 : Bool × Sl × Sl × Bool × Sl × Sl) (h : Heap) (Q : Unit → Heap → Prop) : Prop :=
 mem h fun h0 =>
 hZ o (x0.1, x0.2.1, x0.2.2.1) h0 fun v h1 =>
 hZ o (x0.2.2.2.1, x0.2.2.2.2.1, x0.2.2.2.2.2) h1 fun v_1 h2 =>
 Q () h2
def rc (o : (Option Addr)) (a : Int × Int × Int × Bool × Sl × Sl × Bool × Sl × Sl) (h : Heap) (Q : Unit → Heap → Prop) : Prop :=
 mem h fun h0 =>
 ah o fun a_1 =>
 ai (some (a_1.add 0)) a.1 h0 fun v h1 =>
 ah o fun a_2 =>
 ai (some (a_2.add 0)) a.2.1 h1 fun v_1 h2 =>
 ah o fun a_3 =>
 ai (some (a_3.add 0)) a.2.2.1 h2 fun v_2 h3 =>
 ah o fun a_4 =>
 jJ (some (a_4.add 0)) (a.2.2.2.1, a.2.2.2.2.1, a.2.2.2.2.2.1, a.2.2.2.2.2.2.1, a.2.2.2.2.2.2.2.1, a.2.2.2.2.2.2.2.2) h3 fun v_3 h4 =>
 Q () h4
def bG (o : (Option Addr)) (list : Sl) (put_b : (Option Addr)) (h : Heap) (Q : Unit → Heap → Prop) : Prop :=
 ai o (list.len : Int) h fun v h0 =>
 loop (fun (s0 : Int) h1 (K0 : Int → Heap → Prop) =>
 iteB (decide (s0 < (list.len : Int))) (
 idxS list s0 9 fun a =>
 cg aN 9 a h1 fun v_1 =>
 mem h1 fun h2 =>
 rc put_b v_1 h2 fun v_2 h3 =>
 K0 (IntKind.wrap .i64 (s0 + 1)) h3
 ) (
 Q () h1
 )
 ) 0 h0
def cH (o : (Option Addr)) (list : Sl) (put_b : (Option Addr)) (h : Heap) (Q : Unit → Heap → Prop) : Prop :=
 ai o (list.len : Int) h fun v h0 =>
 loop (fun (s0 : Int) h1 (K0 : Int → Heap → Prop) =>
 iteB (decide (s0 < (list.len : Int))) (
 idxS list s0 1 fun a =>
 Lift.load (Value.int .i64) a h1 fun v_1 =>
 ai put_b v_1 h1 fun v_2 h2 =>
 K0 (IntKind.wrap .i64 (s0 + 1)) h2
 ) (
 Q () h1
 )
 ) 0 h0
def b9 (o : (Option Addr)) (l : Sl) (h : Heap) (Q : Unit → Heap → Prop) : Prop :=
 ah o fun a =>
 ah o fun a_1 =>
 cH (some (a.add 0)) l (some (a_1.add 0)) h fun v h0 =>
 Q () h0
def bP (o : (Option Addr)) (list : Sl) (put_b : (Option Addr)) (h : Heap) (Q : Unit → Heap → Prop) : Prop :=
 ai o (list.len : Int) h fun v h0 =>
 loop (fun (s0 : Int) h1 (K0 : Int → Heap → Prop) =>
 iteB (decide (s0 < (list.len : Int))) (
 idxS list s0 1 fun a =>
 Lift.load Sl.toV a h1 fun v_1 =>
 b9 put_b v_1 h1 fun v_2 h2 =>
 K0 (IntKind.wrap .i64 (s0 + 1)) h2
 ) (
 Q () h1
 )
 ) 0 h0
def gV (o : (Option Addr)) (p : Int × Int × Sl × Sl × Sl × Sl × Sl) (h : Heap) (Q : Unit → Heap → Prop) : Prop :=
 mem h fun h0 =>
 ah o fun a =>
 ai (some (a.add 0)) p.1 h0 fun v h1 =>
 ah o fun a_1 =>
 ai (some (a_1.add 0)) p.2.1 h1 fun v_1 h2 =>
 gJ o p.2.2.1 h2 fun v_2 h3 =>
 ah o fun a_2 =>
 bG (some (a_2.add 0)) p.2.2.2.1 o h3 fun v_3 h4 =>
 ah o fun a_3 =>
 bP (some (a_3.add 0)) p.2.2.2.2.1 o h4 fun v_4 h5 =>
 b9 o p.2.2.2.2.2.1 h5 fun v_5 h6 =>
 gJ o p.2.2.2.2.2.2 h6 fun v_6 h7 =>
 Q () h7
def nQ (o : (Option Addr)) (c : Sl × Bool × Int) (h : Heap) (Q : Unit → Heap → Prop) : Prop :=
 mem h fun h0 =>
 b9 o c.1 h0 fun v h1 =>
 ah o fun a =>
 i9 (some (a.add 0)) c.2.1 h1 fun v_1 h2 =>
 ah o fun a_1 =>
 ai (some (a_1.add 0)) c.2.2 h2 fun v_2 h3 =>
 Q () h3
def ba (o : (Option Addr)) (list : Sl) (put_b : (Option Addr)) (h : Heap) (Q : Unit → Heap → Prop) : Prop :=
 ai o (list.len : Int) h fun v h0 =>
 loop (fun (s0 : Int) h1 (K0 : Int → Heap → Prop) =>
 iteB (decide (s0 < (list.len : Int))) (
 idxS list s0 3 fun a =>
 cg aZ 3 a h1 fun v_1 =>
 mem h1 fun h2 =>
 nQ put_b v_1 h2 fun v_2 h3 =>
 K0 (IntKind.wrap .i64 (s0 + 1)) h3
 ) (
 Q () h1
 )
 ) 0 h0
def iq (o : (Option Addr)) (s0 : Sl × Sl × Sl × Sl × Sl × Sl × Sl × Int) (h : Heap) (Q : Unit → Heap → Prop) : Prop :=
 mem h fun h0 =>
 ah o fun a =>
 ba (some (a.add 0)) s0.1 o h0 fun v h1 =>
 ah o fun a_1 =>
 bP (some (a_1.add 0)) s0.2.1 o h1 fun v_1 h2 =>
 loop (fun (s0u1 : Int) h3 (K0 : Int → Heap → Prop) =>
 iteB (decide (s0u1 < 5)) (
 idxV Sl.toV [Sl.toV s0.2.2.1, Sl.toV s0.2.2.2.1, Sl.toV s0.2.2.2.2.1, Sl.toV s0.2.2.2.2.2.1, Sl.toV s0.2.2.2.2.2.2.1] 5 s0u1 1 fun v_2 =>
 b9 o v_2 h3 fun v_3 h4 =>
 K0 (IntKind.wrap .i64 (s0u1 + 1)) h4
 ) (
 ah o fun a_2 =>
 ai (some (a_2.add 0)) s0.2.2.2.2.2.2.2 h3 fun v_4 h5 =>
 Q () h5
 )
 ) 0 h2
def bB (o : (Option Addr)) (list : Sl) (put_b : (Option Addr)) (h : Heap) (Q : Unit → Heap → Prop) : Prop :=
 ai o (list.len : Int) h fun v h0 =>
 loop (fun (s0 : Int) h1 (K0 : Int → Heap → Prop) =>
 iteB (decide (s0 < (list.len : Int))) (
 idxS list s0 6 fun a =>
 cg bw 6 a h1 fun v_1 =>
 mem h1 fun h2 =>
 jJ put_b v_1 h2 fun v_2 h3 =>
 K0 (IntKind.wrap .i64 (s0 + 1)) h3
 ) (
 Q () h1
 )
 ) 0 h0
def mc (o : (Option Addr)) (e : Int × Bool × Sl × Sl × Bool × Sl × Sl) (h : Heap) (Q : Unit → Heap → Prop) : Prop :=
 mem h fun h0 =>
 ah o fun a =>
 ai (some (a.add 0)) e.1 h0 fun v h1 =>
 ah o fun a_1 =>
 jJ (some (a_1.add 0)) (e.2.1, e.2.2.1, e.2.2.2.1, e.2.2.2.2.1, e.2.2.2.2.2.1, e.2.2.2.2.2.2) h1 fun v_1 h2 =>
 Q () h2
def aW (o : (Option Addr)) (list : Sl) (put_b : (Option Addr)) (h : Heap) (Q : Unit → Heap → Prop) : Prop :=
 ai o (list.len : Int) h fun v h0 =>
 loop (fun (s0 : Int) h1 (K0 : Int → Heap → Prop) =>
 iteB (decide (s0 < (list.len : Int))) (
 idxS list s0 7 fun a =>
 cg cm 7 a h1 fun v_1 =>
 mem h1 fun h2 =>
 mc put_b v_1 h2 fun v_2 h3 =>
 K0 (IntKind.wrap .i64 (s0 + 1)) h3
 ) (
 Q () h1
 )
 ) 0 h0
def i8 (o : (Option Addr)) (t0 : Sl × Sl × Sl × Sl × Sl) (h : Heap) (Q : Unit → Heap → Prop) : Prop :=
 mem h fun h0 =>
 b9 o t0.1 h0 fun v h1 =>
 gJ o t0.2.1 h1 fun v_1 h2 =>
 ah o fun a =>
 ah o fun a_1 =>
 bB (some (a.add 0)) t0.2.2.1 (some (a_1.add 0)) h2 fun v_2 h3 =>
 ah o fun a_2 =>
 aW (some (a_2.add 0)) t0.2.2.2.1 o h3 fun v_3 h4 =>
 ah o fun a_3 =>
 aW (some (a_3.add 0)) t0.2.2.2.2 o h4 fun v_4 h5 =>
 Q () h5
def qT (o : (Option Addr)) (u : Int × Bool × Int × Bool × Sl × Sl × Bool × Sl × Sl × Int) (h : Heap) (Q : Unit → Heap → Prop) : Prop :=
 mem h fun h0 =>
 ah o fun a =>
 ai (some (a.add 0)) u.1 h0 fun v h1 =>
 ah o fun a_1 =>
 i9 (some (a_1.add 0)) u.2.1 h1 fun v_1 h2 =>
 mc o (u.2.2.1, u.2.2.2.1, u.2.2.2.2.1, u.2.2.2.2.2.1, u.2.2.2.2.2.2.1, u.2.2.2.2.2.2.2.1, u.2.2.2.2.2.2.2.2.1) h2 fun v_2 h3 =>
 ah o fun a_2 =>
 ai (some (a_2.add 0)) u.2.2.2.2.2.2.2.2.2 h3 fun v_3 h4 =>
 Q () h4
def aV (o : (Option Addr)) (list : Sl) (put_b : (Option Addr)) (h : Heap) (Q : Unit → Heap → Prop) : Prop :=
 ai o (list.len : Int) h fun v h0 =>
 loop (fun (s0 : Int) h1 (K0 : Int → Heap → Prop) =>
 iteB (decide (s0 < (list.len : Int))) (
 idxS list s0 10 fun a =>
 cg aQ 10 a h1 fun v_1 =>
 mem h1 fun h2 =>
 qT put_b v_1 h2 fun v_2 h3 =>
 K0 (IntKind.wrap .i64 (s0 + 1)) h3
 ) (
 Q () h1
 )
 ) 0 h0
def bN (o : (Option Addr)) (list : Sl) (put_b : (Option Addr)) (h : Heap) (Q : Unit → Heap → Prop) : Prop :=
 ai o (list.len : Int) h fun v h0 =>
 loop (fun (s0 : Int) h1 (K0 : Int → Heap → Prop) =>
 iteB (decide (s0 < (list.len : Int))) (
 idxS list s0 1 fun a =>
 Lift.load Value.bool a h1 fun v_1 =>
 i9 put_b v_1 h1 fun v_2 h2 =>
 K0 (IntKind.wrap .i64 (s0 + 1)) h2
 ) (
 Q () h1
 )
 ) 0 h0
def kH (o : (Option Addr)) (h : Heap) (Q : Sl → Heap → Prop) : Prop :=
 ah o fun a =>
 Lift.load Sl.toV (a.add 0) h fun v =>
 eu v h fun v_1 h0 =>
 Q v_1 h0
def de (s0 : Int × Int × Sl × Sl × Sl × Sl × Sl × Int × Int × Sl × Sl × Sl × Sl × Sl × Sl × Sl × Int × Sl × Sl × Sl × Sl × Sl × Sl × Sl × Sl × Int × Sl × Int × Int × Int × Int × Int × Int) (h : Heap) (Q : Sl → Heap → Prop) : Prop :=
 new [Value.int .i64 s0.1, Value.int .i64 s0.2.1, Sl.toV s0.2.2.1, Sl.toV s0.2.2.2.1, Sl.toV s0.2.2.2.2.1, Sl.toV s0.2.2.2.2.2.1, Sl.toV s0.2.2.2.2.2.2.1, Value.int .i64 s0.2.2.2.2.2.2.2.1, Value.int .i64 s0.2.2.2.2.2.2.2.2.1, Sl.toV s0.2.2.2.2.2.2.2.2.2.1, Sl.toV s0.2.2.2.2.2.2.2.2.2.2.1, Sl.toV s0.2.2.2.2.2.2.2.2.2.2.2.1, Sl.toV s0.2.2.2.2.2.2.2.2.2.2.2.2.1, Sl.toV s0.2.2.2.2.2.2.2.2.2.2.2.2.2.1, Sl.toV s0.2.2.2.2.2.2.2.2.2.2.2.2.2.2.1, Sl.toV s0.2.2.2.2.2.2.2.2.2.2.2.2.2.2.2.1, Value.int .i64 s0.2.2.2.2.2.2.2.2.2.2.2.2.2.2.2.2.1, Sl.toV s0.2.2.2.2.2.2.2.2.2.2.2.2.2.2.2.2.2.1, Sl.toV s0.2.2.2.2.2.2.2.2.2.2.2.2.2.2.2.2.2.2.1, Sl.toV s0.2.2.2.2.2.2.2.2.2.2.2.2.2.2.2.2.2.2.2.1, Sl.toV s0.2.2.2.2.2.2.2.2.2.2.2.2.2.2.2.2.2.2.2.2.1, Sl.toV s0.2.2.2.2.2.2.2.2.2.2.2.2.2.2.2.2.2.2.2.2.2.1, Sl.toV s0.2.2.2.2.2.2.2.2.2.2.2.2.2.2.2.2.2.2.2.2.2.2.1, Sl.toV s0.2.2.2.2.2.2.2.2.2.2.2.2.2.2.2.2.2.2.2.2.2.2.2.1, Sl.toV s0.2.2.2.2.2.2.2.2.2.2.2.2.2.2.2.2.2.2.2.2.2.2.2.2.1, Value.int .i64 s0.2.2.2.2.2.2.2.2.2.2.2.2.2.2.2.2.2.2.2.2.2.2.2.2.2.1, Sl.toV s0.2.2.2.2.2.2.2.2.2.2.2.2.2.2.2.2.2.2.2.2.2.2.2.2.2.2.1, Value.int .i64 s0.2.2.2.2.2.2.2.2.2.2.2.2.2.2.2.2.2.2.2.2.2.2.2.2.2.2.2.1, Value.int .i64 s0.2.2.2.2.2.2.2.2.2.2.2.2.2.2.2.2.2.2.2.2.2.2.2.2.2.2.2.2.1, Value.int .i64 s0.2.2.2.2.2.2.2.2.2.2.2.2.2.2.2.2.2.2.2.2.2.2.2.2.2.2.2.2.2.1, Value.int .i64 s0.2.2.2.2.2.2.2.2.2.2.2.2.2.2.2.2.2.2.2.2.2.2.2.2.2.2.2.2.2.2.1, Value.int .i64 s0.2.2.2.2.2.2.2.2.2.2.2.2.2.2.2.2.2.2.2.2.2.2.2.2.2.2.2.2.2.2.2.1, Value.int .i64 s0.2.2.2.2.2.2.2.2.2.2.2.2.2.2.2.2.2.2.2.2.2.2.2.2.2.2.2.2.2.2.2.2] h fun s0u1 h0 =>
 new [Sl.toV Sl.nil] h0 fun a h1 =>
 ai (some (a.add 0)) 1 h1 fun v h2 =>
 cg aG 7 (s0u1.add 0) h2 fun v_1 =>
 gV (some a) v_1 h2 fun v_2 h3 =>
 Lift.load (Value.int .i64) ((s0u1.add 7).add 0) h3 fun v_3 =>
 ai (some (a.add 0)) v_3 h3 fun v_4 h4 =>
 Lift.load (Value.int .i64) ((s0u1.add 7).add 1) h4 fun v_5 =>
 ai (some (a.add 0)) v_5 h4 fun v_6 h5 =>
 cg ag 8 (s0u1.add 9) h5 fun v_7 =>
 iq (some a) v_7 h5 fun v_8 h6 =>
 Lift.load Sl.toV ((s0u1.add 17).add 0) h6 fun v_9 =>
 b9 (some a) v_9 h6 fun v_10 h7 =>
 Lift.load Sl.toV ((s0u1.add 17).add 1) h7 fun v_11 =>
 b9 (some a) v_11 h7 fun v_12 h8 =>
 cg cD 5 (s0u1.add 19) h8 fun v_13 =>
 i8 (some a) v_13 h8 fun v_14 h9 =>
 Lift.load Sl.toV (s0u1.add 24) h9 fun v_15 =>
 aV (some (a.add 0)) v_15 (some a) h9 fun v_16 h10 =>
 Lift.load (Value.int .i64) (s0u1.add 25) h10 fun v_17 =>
 ai (some (a.add 0)) v_17 h10 fun v_18 h11 =>
 Lift.load Sl.toV (s0u1.add 26) h11 fun v_19 =>
 bN (some (a.add 0)) v_19 (some (a.add 0)) h11 fun v_20 h12 =>
 jX (some s0u1) h12 fun v_21 h13 =>
 loop (fun (s0u2 : Int) h14 (K0 : Int → Heap → Prop) =>
 iteB (decide (s0u2 < 6)) (
 idxV Value.pointer [Value.pointer v_21.1, Value.pointer v_21.2.1, Value.pointer v_21.2.2.1, Value.pointer v_21.2.2.2.1, Value.pointer v_21.2.2.2.2.1, Value.pointer v_21.2.2.2.2.2] 6 s0u2 1 fun v_22 =>
 ah v_22 fun a_1 =>
 Lift.load (Value.int .i64) a_1 h14 fun v_23 =>
 ai (some (a.add 0)) v_23 h14 fun v_24 h15 =>
 K0 (IntKind.wrap .i64 (s0u2 + 1)) h15
 ) (
 kH (some (a.add 0)) h14 fun v_25 h16 =>
 Q v_25 h16
 )
 ) 0 h13
def ro (a : Sl) (b : Sl) (h : Heap) (Q : Bool → Heap → Prop) : Prop :=
 yM a h fun v =>
 yM b h fun v_1 =>
 Q (v.toList == v_1.toList) h
def qA (s0 : Int × Int × Sl × Sl × Sl × Sl × Sl × Int × Int × Sl × Sl × Sl × Sl × Sl × Sl × Sl × Int × Sl × Sl × Sl × Sl × Sl × Sl × Sl × Sl × Int × Sl × Int × Int × Int × Int × Int × Int) (t0 : Int × Int × Sl × Sl × Sl × Sl × Sl × Int × Int × Sl × Sl × Sl × Sl × Sl × Sl × Sl × Int × Sl × Sl × Sl × Sl × Sl × Sl × Sl × Sl × Int × Sl × Int × Int × Int × Int × Int × Int) (h : Heap) (Q : Bool → Heap → Prop) : Prop :=
 mem h fun h0 =>
 de s0 h0 fun v h1 =>
 de t0 h1 fun v_1 h2 =>
 ro v v_1 h2 fun v_2 h3 =>
 Q v_2 h3
def iX (h : Heap) (Q : Bool → Heap → Prop) : Prop :=
 eX Sl.nil h fun v h0 =>
 mem h0 fun h1 =>
 mV (0, 0, Sl.nil, Sl.nil, Sl.nil, Sl.nil, Sl.nil) (2, 0) h1 fun v_1 h2 =>
 mem h2 fun h3 =>
 de (v_1.1.1, v_1.1.2.1, v_1.1.2.2.1, v_1.1.2.2.2.1, v_1.1.2.2.2.2.1, v_1.1.2.2.2.2.2.1, v_1.1.2.2.2.2.2.2.1, v_1.1.2.2.2.2.2.2.2.1, v_1.1.2.2.2.2.2.2.2.2.1, v_1.1.2.2.2.2.2.2.2.2.2.1, v_1.1.2.2.2.2.2.2.2.2.2.2.1, v_1.1.2.2.2.2.2.2.2.2.2.2.2.1, v_1.1.2.2.2.2.2.2.2.2.2.2.2.2.1, v_1.1.2.2.2.2.2.2.2.2.2.2.2.2.2.1, v_1.1.2.2.2.2.2.2.2.2.2.2.2.2.2.2.1, v_1.1.2.2.2.2.2.2.2.2.2.2.2.2.2.2.2.1, v_1.1.2.2.2.2.2.2.2.2.2.2.2.2.2.2.2.2.1, v_1.1.2.2.2.2.2.2.2.2.2.2.2.2.2.2.2.2.2.1, v_1.1.2.2.2.2.2.2.2.2.2.2.2.2.2.2.2.2.2.2.1, v_1.1.2.2.2.2.2.2.2.2.2.2.2.2.2.2.2.2.2.2.2.1, v_1.1.2.2.2.2.2.2.2.2.2.2.2.2.2.2.2.2.2.2.2.2.1, v_1.1.2.2.2.2.2.2.2.2.2.2.2.2.2.2.2.2.2.2.2.2.2.1, v_1.1.2.2.2.2.2.2.2.2.2.2.2.2.2.2.2.2.2.2.2.2.2.2.1, v_1.1.2.2.2.2.2.2.2.2.2.2.2.2.2.2.2.2.2.2.2.2.2.2.2.1, v_1.1.2.2.2.2.2.2.2.2.2.2.2.2.2.2.2.2.2.2.2.2.2.2.2.2.1, v_1.1.2.2.2.2.2.2.2.2.2.2.2.2.2.2.2.2.2.2.2.2.2.2.2.2.2.1, v_1.1.2.2.2.2.2.2.2.2.2.2.2.2.2.2.2.2.2.2.2.2.2.2.2.2.2.2.1, v_1.1.2.2.2.2.2.2.2.2.2.2.2.2.2.2.2.2.2.2.2.2.2.2.2.2.2.2.2.1, v_1.1.2.2.2.2.2.2.2.2.2.2.2.2.2.2.2.2.2.2.2.2.2.2.2.2.2.2.2.2.1, v_1.1.2.2.2.2.2.2.2.2.2.2.2.2.2.2.2.2.2.2.2.2.2.2.2.2.2.2.2.2.2.1, v_1.1.2.2.2.2.2.2.2.2.2.2.2.2.2.2.2.2.2.2.2.2.2.2.2.2.2.2.2.2.2.2.1, v_1.1.2.2.2.2.2.2.2.2.2.2.2.2.2.2.2.2.2.2.2.2.2.2.2.2.2.2.2.2.2.2.2.1, v_1.1.2.2.2.2.2.2.2.2.2.2.2.2.2.2.2.2.2.2.2.2.2.2.2.2.2.2.2.2.2.2.2.2) h3 fun v_2 h4 =>
 eX v_2 h4 fun v_3 h5 =>
 mem h5 fun h6 =>
 seq (fun (K0 : Bool → Heap → Prop) =>
 iteB (v.2 == 3) (
 iteB (v_1.2 == 0) (
 iteB (v_3.2 == 0) (
 qA (v_1.1.1, v_1.1.2.1, v_1.1.2.2.1, v_1.1.2.2.2.1, v_1.1.2.2.2.2.1, v_1.1.2.2.2.2.2.1, v_1.1.2.2.2.2.2.2.1, v_1.1.2.2.2.2.2.2.2.1, v_1.1.2.2.2.2.2.2.2.2.1, v_1.1.2.2.2.2.2.2.2.2.2.1, v_1.1.2.2.2.2.2.2.2.2.2.2.1, v_1.1.2.2.2.2.2.2.2.2.2.2.2.1, v_1.1.2.2.2.2.2.2.2.2.2.2.2.2.1, v_1.1.2.2.2.2.2.2.2.2.2.2.2.2.2.1, v_1.1.2.2.2.2.2.2.2.2.2.2.2.2.2.2.1, v_1.1.2.2.2.2.2.2.2.2.2.2.2.2.2.2.2.1, v_1.1.2.2.2.2.2.2.2.2.2.2.2.2.2.2.2.2.1, v_1.1.2.2.2.2.2.2.2.2.2.2.2.2.2.2.2.2.2.1, v_1.1.2.2.2.2.2.2.2.2.2.2.2.2.2.2.2.2.2.2.1, v_1.1.2.2.2.2.2.2.2.2.2.2.2.2.2.2.2.2.2.2.2.1, v_1.1.2.2.2.2.2.2.2.2.2.2.2.2.2.2.2.2.2.2.2.2.1, v_1.1.2.2.2.2.2.2.2.2.2.2.2.2.2.2.2.2.2.2.2.2.2.1, v_1.1.2.2.2.2.2.2.2.2.2.2.2.2.2.2.2.2.2.2.2.2.2.2.1, v_1.1.2.2.2.2.2.2.2.2.2.2.2.2.2.2.2.2.2.2.2.2.2.2.2.1, v_1.1.2.2.2.2.2.2.2.2.2.2.2.2.2.2.2.2.2.2.2.2.2.2.2.2.1, v_1.1.2.2.2.2.2.2.2.2.2.2.2.2.2.2.2.2.2.2.2.2.2.2.2.2.2.1, v_1.1.2.2.2.2.2.2.2.2.2.2.2.2.2.2.2.2.2.2.2.2.2.2.2.2.2.2.1, v_1.1.2.2.2.2.2.2.2.2.2.2.2.2.2.2.2.2.2.2.2.2.2.2.2.2.2.2.2.1, v_1.1.2.2.2.2.2.2.2.2.2.2.2.2.2.2.2.2.2.2.2.2.2.2.2.2.2.2.2.2.1, v_1.1.2.2.2.2.2.2.2.2.2.2.2.2.2.2.2.2.2.2.2.2.2.2.2.2.2.2.2.2.2.1, v_1.1.2.2.2.2.2.2.2.2.2.2.2.2.2.2.2.2.2.2.2.2.2.2.2.2.2.2.2.2.2.2.1, v_1.1.2.2.2.2.2.2.2.2.2.2.2.2.2.2.2.2.2.2.2.2.2.2.2.2.2.2.2.2.2.2.2.1, v_1.1.2.2.2.2.2.2.2.2.2.2.2.2.2.2.2.2.2.2.2.2.2.2.2.2.2.2.2.2.2.2.2.2) (v_3.1.1, v_3.1.2.1, v_3.1.2.2.1, v_3.1.2.2.2.1, v_3.1.2.2.2.2.1, v_3.1.2.2.2.2.2.1, v_3.1.2.2.2.2.2.2.1, v_3.1.2.2.2.2.2.2.2.1, v_3.1.2.2.2.2.2.2.2.2.1, v_3.1.2.2.2.2.2.2.2.2.2.1, v_3.1.2.2.2.2.2.2.2.2.2.2.1, v_3.1.2.2.2.2.2.2.2.2.2.2.2.1, v_3.1.2.2.2.2.2.2.2.2.2.2.2.2.1, v_3.1.2.2.2.2.2.2.2.2.2.2.2.2.2.1, v_3.1.2.2.2.2.2.2.2.2.2.2.2.2.2.2.1, v_3.1.2.2.2.2.2.2.2.2.2.2.2.2.2.2.2.1, v_3.1.2.2.2.2.2.2.2.2.2.2.2.2.2.2.2.2.1, v_3.1.2.2.2.2.2.2.2.2.2.2.2.2.2.2.2.2.2.1, v_3.1.2.2.2.2.2.2.2.2.2.2.2.2.2.2.2.2.2.2.1, v_3.1.2.2.2.2.2.2.2.2.2.2.2.2.2.2.2.2.2.2.2.1, v_3.1.2.2.2.2.2.2.2.2.2.2.2.2.2.2.2.2.2.2.2.2.1, v_3.1.2.2.2.2.2.2.2.2.2.2.2.2.2.2.2.2.2.2.2.2.2.1, v_3.1.2.2.2.2.2.2.2.2.2.2.2.2.2.2.2.2.2.2.2.2.2.2.1, v_3.1.2.2.2.2.2.2.2.2.2.2.2.2.2.2.2.2.2.2.2.2.2.2.2.1, v_3.1.2.2.2.2.2.2.2.2.2.2.2.2.2.2.2.2.2.2.2.2.2.2.2.2.1, v_3.1.2.2.2.2.2.2.2.2.2.2.2.2.2.2.2.2.2.2.2.2.2.2.2.2.2.1, v_3.1.2.2.2.2.2.2.2.2.2.2.2.2.2.2.2.2.2.2.2.2.2.2.2.2.2.2.1, v_3.1.2.2.2.2.2.2.2.2.2.2.2.2.2.2.2.2.2.2.2.2.2.2.2.2.2.2.2.1, v_3.1.2.2.2.2.2.2.2.2.2.2.2.2.2.2.2.2.2.2.2.2.2.2.2.2.2.2.2.2.1, v_3.1.2.2.2.2.2.2.2.2.2.2.2.2.2.2.2.2.2.2.2.2.2.2.2.2.2.2.2.2.2.1, v_3.1.2.2.2.2.2.2.2.2.2.2.2.2.2.2.2.2.2.2.2.2.2.2.2.2.2.2.2.2.2.2.1, v_3.1.2.2.2.2.2.2.2.2.2.2.2.2.2.2.2.2.2.2.2.2.2.2.2.2.2.2.2.2.2.2.2.1, v_3.1.2.2.2.2.2.2.2.2.2.2.2.2.2.2.2.2.2.2.2.2.2.2.2.2.2.2.2.2.2.2.2.2) h6 fun v_4 h8 =>
 iteB v_4 (
 de (v_1.1.1, v_1.1.2.1, v_1.1.2.2.1, v_1.1.2.2.2.1, v_1.1.2.2.2.2.1, v_1.1.2.2.2.2.2.1, v_1.1.2.2.2.2.2.2.1, v_1.1.2.2.2.2.2.2.2.1, v_1.1.2.2.2.2.2.2.2.2.1, v_1.1.2.2.2.2.2.2.2.2.2.1, v_1.1.2.2.2.2.2.2.2.2.2.2.1, v_1.1.2.2.2.2.2.2.2.2.2.2.2.1, v_1.1.2.2.2.2.2.2.2.2.2.2.2.2.1, v_1.1.2.2.2.2.2.2.2.2.2.2.2.2.2.1, v_1.1.2.2.2.2.2.2.2.2.2.2.2.2.2.2.1, v_1.1.2.2.2.2.2.2.2.2.2.2.2.2.2.2.2.1, v_1.1.2.2.2.2.2.2.2.2.2.2.2.2.2.2.2.2.1, v_1.1.2.2.2.2.2.2.2.2.2.2.2.2.2.2.2.2.2.1, v_1.1.2.2.2.2.2.2.2.2.2.2.2.2.2.2.2.2.2.2.1, v_1.1.2.2.2.2.2.2.2.2.2.2.2.2.2.2.2.2.2.2.2.1, v_1.1.2.2.2.2.2.2.2.2.2.2.2.2.2.2.2.2.2.2.2.2.1, v_1.1.2.2.2.2.2.2.2.2.2.2.2.2.2.2.2.2.2.2.2.2.2.1, v_1.1.2.2.2.2.2.2.2.2.2.2.2.2.2.2.2.2.2.2.2.2.2.2.1, v_1.1.2.2.2.2.2.2.2.2.2.2.2.2.2.2.2.2.2.2.2.2.2.2.2.1, v_1.1.2.2.2.2.2.2.2.2.2.2.2.2.2.2.2.2.2.2.2.2.2.2.2.2.1, v_1.1.2.2.2.2.2.2.2.2.2.2.2.2.2.2.2.2.2.2.2.2.2.2.2.2.2.1, v_1.1.2.2.2.2.2.2.2.2.2.2.2.2.2.2.2.2.2.2.2.2.2.2.2.2.2.2.1, v_1.1.2.2.2.2.2.2.2.2.2.2.2.2.2.2.2.2.2.2.2.2.2.2.2.2.2.2.2.1, v_1.1.2.2.2.2.2.2.2.2.2.2.2.2.2.2.2.2.2.2.2.2.2.2.2.2.2.2.2.2.1, v_1.1.2.2.2.2.2.2.2.2.2.2.2.2.2.2.2.2.2.2.2.2.2.2.2.2.2.2.2.2.2.1, v_1.1.2.2.2.2.2.2.2.2.2.2.2.2.2.2.2.2.2.2.2.2.2.2.2.2.2.2.2.2.2.2.1, v_1.1.2.2.2.2.2.2.2.2.2.2.2.2.2.2.2.2.2.2.2.2.2.2.2.2.2.2.2.2.2.2.2.1, v_1.1.2.2.2.2.2.2.2.2.2.2.2.2.2.2.2.2.2.2.2.2.2.2.2.2.2.2.2.2.2.2.2.2) h8 fun v_5 h9 =>
 K0 (decide ((v_5.len : Int) > 100)) h9
 ) (
 K0 false h8
 )
 ) (
 K0 false h6
 )
 ) (
 K0 false h6
 )
 ) (
 K0 false h6
 )
 ) (fun t0 h7 =>
 Q t0 h7
 )
def ay (out : Sl) (n : Int) (h : Heap) (Q : Sl → Heap → Prop) : Prop :=
 Let (IntKind.wrap .u64 n : Int) fun m0 =>
 new [Value.int .u8 0, Value.int .u8 0, Value.int .u8 0, Value.int .u8 0, Value.int .u8 0, Value.int .u8 0, Value.int .u8 0, Value.int .u8 0] h fun b h0 =>
 dk b [Value.int .u8 0, Value.int .u8 0, Value.int .u8 0, Value.int .u8 0, Value.int .u8 0, Value.int .u8 0, Value.int .u8 0, Value.int .u8 0] h0 fun h1 =>
 loop (fun (s0 : Int × Int) h2 (K0 : (Int × Int) → Heap → Prop) =>
 iteB (decide (s0.2 ≥ 0)) (
 ((0 : Int) ≤ (s0.2 : Int) ∧ (s0.2 : Int) < 8) ∧
 Lift.amL (b.add (Int.toNat s0.2 * 1)) (Value.int .u8 (IntKind.wrap .u8 (Int.tmod s0.1 256))) h2 fun h3 =>
 Let (IntKind.wrap .u64 (Int.tdiv s0.1 256) : Int) fun m0u1 =>
 Let (IntKind.wrap .i64 (s0.2 - 1) : Int) fun i =>
 K0 (m0u1, i) h3
 ) (
 aP 1 1 out (⟨some b, 8, 8⟩ : Sl) h2 fun v_1 h4 =>
 Q v_1 h4
 )
 ) (m0, 7) h1
def fF (out : Sl) (is : Bool) (h : Heap) (Q : Sl → Heap → Prop) : Prop :=
 iteB is (
 new [Value.int .u8 1] h fun a h0 =>
 aP 1 1 out (⟨some a, 1, 1⟩ : Sl) h0 fun v_1 h1 =>
 Q v_1 h1
 ) (
 new [Value.int .u8 0] h fun a_1 h2 =>
 aP 1 1 out (⟨some a_1, 1, 1⟩ : Sl) h2 fun v_3 h3 =>
 Q v_3 h3
 )
def lw (out : Sl) (l : Sl) (h : Heap) (Q : Sl → Heap → Prop) : Prop :=
 ay out (l.len : Int) h fun v h0 =>
 loop (fun (s0 : Sl × Int) h1 (K0 : (Sl × Int) → Heap → Prop) =>
 iteB (decide (s0.2 < (l.len : Int))) (
 idxS l s0.2 1 fun a =>
 Lift.load (Value.int .u32) a h1 fun v_1 =>
 idxS l s0.2 1 fun a_1 =>
 Lift.load (Value.int .u32) a_1 h1 fun v_2 =>
 idxS l s0.2 1 fun a_2 =>
 Lift.load (Value.int .u32) a_2 h1 fun v_3 =>
 idxS l s0.2 1 fun a_3 =>
 Lift.load (Value.int .u32) a_3 h1 fun v_4 =>
 new [Value.int .u8 (IntKind.wrap .u8 (IntKind.wrap .u32 (Int.tdiv v_1 16777216))), Value.int .u8 (IntKind.wrap .u8 (Int.tmod (IntKind.wrap .u32 (Int.tdiv v_2 65536)) 256)), Value.int .u8 (IntKind.wrap .u8 (Int.tmod (IntKind.wrap .u32 (Int.tdiv v_3 256)) 256)), Value.int .u8 (IntKind.wrap .u8 (Int.tmod v_4 256))] h1 fun a_4 h2 =>
 aP 1 1 s0.1 (⟨some a_4, 4, 4⟩ : Sl) h2 fun v_6 h3 =>
 Let (IntKind.wrap .i64 (s0.2 + 1) : Int) fun i =>
 K0 (v_6, i) h3
 ) (
 Q s0.1 h1
 )
 ) (v, 0) h0
def iB (out : Sl) (x0 : Bool × Sl × Sl) (h : Heap) (Q : Sl → Heap → Prop) : Prop :=
 mem h fun h0 =>
 fF out x0.1 h0 fun v h1 =>
 lw v x0.2.1 h1 fun v_1 h2 =>
 lw v_1 x0.2.2 h2 fun v_2 h3 =>
 Q v_2 h3
def xy (out : Sl) (p : Bool × Sl × Sl × Sl) (h : Heap) (Q : Sl → Heap → Prop) : Prop :=
 mem h fun h0 =>
 iB out (p.1, p.2.1, p.2.2.1) h0 fun v h1 =>
 ay v (p.2.2.2.len : Int) h1 fun v_1 h2 =>
 loop (fun (s0 : Sl × Int) h3 (K0 : (Sl × Int) → Heap → Prop) =>
 iteB (decide (s0.2 < (p.2.2.2.len : Int))) (
 idxS p.2.2.2 s0.2 4 fun a =>
 Lift.load (Value.int .i64) (a.add 0) h3 fun v_2 =>
 idxS p.2.2.2 s0.2 4 fun a_1 =>
 cg dM 3 (a_1.add 1) h3 fun v_3 =>
 ay s0.1 v_2 h3 fun v_4 h4 =>
 (cells? h4 (a_1.add 1) 3 0 = some [Value.bool v_3.1, Sl.toV v_3.2.1, Sl.toV v_3.2.2]) ∧
 iB v_4 v_3 h4 fun v_5 h5 =>
 Let (IntKind.wrap .i64 (s0.2 + 1) : Int) fun i =>
 K0 (v_5, i) h5
 ) (
 Q s0.1 h3
 )
 ) (v_1, 0) h2
def kQ (out : Sl) (l : Sl) (h : Heap) (Q : Sl → Heap → Prop) : Prop :=
 ay out (l.len : Int) h fun v h0 =>
 loop (fun (s0 : Sl × Int) h1 (K0 : (Sl × Int) → Heap → Prop) =>
 iteB (decide (s0.2 < (l.len : Int))) (
 idxS l s0.2 4 fun a =>
 cg cV 4 a h1 fun v_1 =>
 xy s0.1 v_1 h1 fun v_2 h2 =>
 Let (IntKind.wrap .i64 (s0.2 + 1) : Int) fun i =>
 K0 (v_2, i) h2
 ) (
 Q s0.1 h1
 )
 ) (v, 0) h0
def gg (out : Sl) (x0 : Bool × Sl × Sl × Bool × Sl × Sl) (h : Heap) (Q : Sl → Heap → Prop) : Prop :=
 mem h fun h0 =>
 iB out (x0.1, x0.2.1, x0.2.2.1) h0 fun v h1 =>
 iB v (x0.2.2.2.1, x0.2.2.2.2.1, x0.2.2.2.2.2) h1 fun v_1 h2 =>
 Q v_1 h2
def bp (out : Sl) (l : Sl) (h : Heap) (Q : Sl → Heap → Prop) : Prop :=
 ay out (l.len : Int) h fun v h0 =>
 loop (fun (s0 : Sl × Int) h1 (K0 : (Sl × Int) → Heap → Prop) =>
 iteB (decide (s0.2 < (l.len : Int))) (
 idxS l s0.2 1 fun a =>
 Lift.load (Value.int .i64) a h1 fun v_1 =>
 ay s0.1 v_1 h1 fun v_2 h2 =>
 Let (IntKind.wrap .i64 (s0.2 + 1) : Int) fun i =>
 K0 (v_2, i) h2
 ) (
 Q s0.1 h1
 )
 ) (v, 0) h0
def lz (out : Sl) (l : Sl) (h : Heap) (Q : Sl → Heap → Prop) : Prop :=
 ay out (l.len : Int) h fun v h0 =>
 loop (fun (s0 : Sl × Int) h1 (K0 : (Sl × Int) → Heap → Prop) =>
 iteB (decide (s0.2 < (l.len : Int))) (
 idxS l s0.2 1 fun a =>
 Lift.load Sl.toV a h1 fun v_1 =>
 bp s0.1 v_1 h1 fun v_2 h2 =>
 Let (IntKind.wrap .i64 (s0.2 + 1) : Int) fun i =>
 K0 (v_2, i) h2
 ) (
 Q s0.1 h1
 )
 ) (v, 0) h0
def kz (out : Sl) (p : Int × Int × Sl × Sl × Sl × Sl × Sl) (h : Heap) (Q : Sl → Heap → Prop) : Prop :=
 mem h fun h0 =>
 ay out p.1 h0 fun v h1 =>
 ay v p.2.1 h1 fun v_1 h2 =>
 kQ v_1 p.2.2.1 h2 fun v_2 h3 =>
 ay v_2 (p.2.2.2.1.len : Int) h3 fun v_3 h4 =>
 loop (fun (s0 : Sl × Int) h5 (K0 : (Sl × Int) → Heap → Prop) =>
 iteB (decide (s0.2 < (p.2.2.2.1.len : Int))) (
 idxS p.2.2.2.1 s0.2 9 fun a =>
 cg aN 9 a h5 fun v_4 =>
 mem h5 fun h6 =>
 ay s0.1 v_4.1 h6 fun v_5 h7 =>
 ay v_5 v_4.2.1 h7 fun v_6 h8 =>
 ay v_6 v_4.2.2.1 h8 fun v_7 h9 =>
 gg v_7 (v_4.2.2.2.1, v_4.2.2.2.2.1, v_4.2.2.2.2.2.1, v_4.2.2.2.2.2.2.1, v_4.2.2.2.2.2.2.2.1, v_4.2.2.2.2.2.2.2.2) h9 fun v_8 h10 =>
 Let (IntKind.wrap .i64 (s0.2 + 1) : Int) fun i =>
 K0 (v_8, i) h10
 ) (
 lz s0.1 p.2.2.2.2.1 h5 fun v_9 h11 =>
 bp v_9 p.2.2.2.2.2.1 h11 fun v_10 h12 =>
 kQ v_10 p.2.2.2.2.2.2 h12 fun v_11 h13 =>
 Q v_11 h13
 )
 ) (v_3, 0) h4
def mu (out : Sl) (e : Int × Bool × Sl × Sl × Bool × Sl × Sl) (h : Heap) (Q : Sl → Heap → Prop) : Prop :=
 mem h fun h0 =>
 ay out e.1 h0 fun v h1 =>
 gg v (e.2.1, e.2.2.1, e.2.2.2.1, e.2.2.2.2.1, e.2.2.2.2.2.1, e.2.2.2.2.2.2) h1 fun v_1 h2 =>
 Q v_1 h2
def jy (out : Sl) (l : Sl) (h : Heap) (Q : Sl → Heap → Prop) : Prop :=
 ay out (l.len : Int) h fun v h0 =>
 loop (fun (s0 : Sl × Int) h1 (K0 : (Sl × Int) → Heap → Prop) =>
 iteB (decide (s0.2 < (l.len : Int))) (
 idxS l s0.2 7 fun a =>
 cg cm 7 a h1 fun v_1 =>
 mu s0.1 v_1 h1 fun v_2 h2 =>
 Let (IntKind.wrap .i64 (s0.2 + 1) : Int) fun i =>
 K0 (v_2, i) h2
 ) (
 Q s0.1 h1
 )
 ) (v, 0) h0
def jx (s0 : Int × Int × Sl × Sl × Sl × Sl × Sl × Int × Int × Sl × Sl × Sl × Sl × Sl × Sl × Sl × Int × Sl × Sl × Sl × Sl × Sl × Sl × Sl × Sl × Int × Sl × Int × Int × Int × Int × Int × Int) (h : Heap) (Q : Sl → Heap → Prop) : Prop :=
 mem h fun h0 =>
 new [] h0 fun a h1 =>
 ay (⟨some a, 0, 0⟩ : Sl) 1 h1 fun v_1 h2 =>
 kz v_1 (s0.1, s0.2.1, s0.2.2.1, s0.2.2.2.1, s0.2.2.2.2.1, s0.2.2.2.2.2.1, s0.2.2.2.2.2.2.1) h2 fun v_2 h3 =>
 ay v_2 s0.2.2.2.2.2.2.2.1 h3 fun v_3 h4 =>
 ay v_3 s0.2.2.2.2.2.2.2.2.1 h4 fun v_4 h5 =>
 ay v_4 (s0.2.2.2.2.2.2.2.2.2.1.len : Int) h5 fun v_5 h6 =>
 loop (fun (s0u1 : Sl × Int) h7 (K0 : (Sl × Int) → Heap → Prop) =>
 iteB (decide (s0u1.2 < (s0.2.2.2.2.2.2.2.2.2.1.len : Int))) (
 idxS s0.2.2.2.2.2.2.2.2.2.1 s0u1.2 3 fun a_1 =>
 cg aZ 3 a_1 h7 fun v_6 =>
 mem h7 fun h8 =>
 bp s0u1.1 v_6.1 h8 fun v_7 h9 =>
 fF v_7 v_6.2.1 h9 fun v_8 h10 =>
 ay v_8 v_6.2.2 h10 fun v_9 h11 =>
 Let (IntKind.wrap .i64 (s0u1.2 + 1) : Int) fun i =>
 K0 (v_9, i) h11
 ) (
 lz s0u1.1 s0.2.2.2.2.2.2.2.2.2.2.1 h7 fun v_10 h12 =>
 bp v_10 s0.2.2.2.2.2.2.2.2.2.2.2.1 h12 fun v_11 h13 =>
 bp v_11 s0.2.2.2.2.2.2.2.2.2.2.2.2.1 h13 fun v_12 h14 =>
 bp v_12 s0.2.2.2.2.2.2.2.2.2.2.2.2.2.1 h14 fun v_13 h15 =>
 bp v_13 s0.2.2.2.2.2.2.2.2.2.2.2.2.2.2.1 h15 fun v_14 h16 =>
 bp v_14 s0.2.2.2.2.2.2.2.2.2.2.2.2.2.2.2.1 h16 fun v_15 h17 =>
 ay v_15 s0.2.2.2.2.2.2.2.2.2.2.2.2.2.2.2.2.1 h17 fun v_16 h18 =>
 bp v_16 s0.2.2.2.2.2.2.2.2.2.2.2.2.2.2.2.2.2.1 h18 fun v_17 h19 =>
 bp v_17 s0.2.2.2.2.2.2.2.2.2.2.2.2.2.2.2.2.2.2.1 h19 fun v_18 h20 =>
 bp v_18 s0.2.2.2.2.2.2.2.2.2.2.2.2.2.2.2.2.2.2.2.1 h20 fun v_19 h21 =>
 kQ v_19 s0.2.2.2.2.2.2.2.2.2.2.2.2.2.2.2.2.2.2.2.2.1 h21 fun v_20 h22 =>
 ay v_20 (s0.2.2.2.2.2.2.2.2.2.2.2.2.2.2.2.2.2.2.2.2.2.1.len : Int) h22 fun v_21 h23 =>
 loop (fun (s0u2 : Sl × Int) h24 (K0u1 : (Sl × Int) → Heap → Prop) =>
 iteB (decide (s0u2.2 < (s0.2.2.2.2.2.2.2.2.2.2.2.2.2.2.2.2.2.2.2.2.2.1.len : Int))) (
 idxS s0.2.2.2.2.2.2.2.2.2.2.2.2.2.2.2.2.2.2.2.2.2.1 s0u2.2 6 fun a_2 =>
 cg bw 6 a_2 h24 fun v_22 =>
 gg s0u2.1 v_22 h24 fun v_23 h25 =>
 Let (IntKind.wrap .i64 (s0u2.2 + 1) : Int) fun i_1 =>
 K0u1 (v_23, i_1) h25
 ) (
 jy s0u2.1 s0.2.2.2.2.2.2.2.2.2.2.2.2.2.2.2.2.2.2.2.2.2.2.1 h24 fun v_24 h26 =>
 jy v_24 s0.2.2.2.2.2.2.2.2.2.2.2.2.2.2.2.2.2.2.2.2.2.2.2.1 h26 fun v_25 h27 =>
 ay v_25 (s0.2.2.2.2.2.2.2.2.2.2.2.2.2.2.2.2.2.2.2.2.2.2.2.2.1.len : Int) h27 fun v_26 h28 =>
 loop (fun (s0u3 : Sl × Int) h29 (K0u2 : (Sl × Int) → Heap → Prop) =>
 iteB (decide (s0u3.2 < (s0.2.2.2.2.2.2.2.2.2.2.2.2.2.2.2.2.2.2.2.2.2.2.2.2.1.len : Int))) (
 idxS s0.2.2.2.2.2.2.2.2.2.2.2.2.2.2.2.2.2.2.2.2.2.2.2.2.1 s0u3.2 10 fun a_3 =>
 cg aQ 10 a_3 h29 fun v_27 =>
 mem h29 fun h30 =>
 ay s0u3.1 v_27.1 h30 fun v_28 h31 =>
 fF v_28 v_27.2.1 h31 fun v_29 h32 =>
 mu v_29 (v_27.2.2.1, v_27.2.2.2.1, v_27.2.2.2.2.1, v_27.2.2.2.2.2.1, v_27.2.2.2.2.2.2.1, v_27.2.2.2.2.2.2.2.1, v_27.2.2.2.2.2.2.2.2.1) h32 fun v_30 h33 =>
 ay v_30 v_27.2.2.2.2.2.2.2.2.2 h33 fun v_31 h34 =>
 Let (IntKind.wrap .i64 (s0u3.2 + 1) : Int) fun i_2 =>
 K0u2 (v_31, i_2) h34
 ) (
 ay s0u3.1 s0.2.2.2.2.2.2.2.2.2.2.2.2.2.2.2.2.2.2.2.2.2.2.2.2.2.1 h29 fun v_32 h35 =>
 ay v_32 (s0.2.2.2.2.2.2.2.2.2.2.2.2.2.2.2.2.2.2.2.2.2.2.2.2.2.2.1.len : Int) h35 fun v_33 h36 =>
 loop (fun (s0u4 : Sl × Int) h37 (K0u3 : (Sl × Int) → Heap → Prop) =>
 iteB (decide (s0u4.2 < (s0.2.2.2.2.2.2.2.2.2.2.2.2.2.2.2.2.2.2.2.2.2.2.2.2.2.2.1.len : Int))) (
 idxS s0.2.2.2.2.2.2.2.2.2.2.2.2.2.2.2.2.2.2.2.2.2.2.2.2.2.2.1 s0u4.2 1 fun a_4 =>
 Lift.load Value.bool a_4 h37 fun v_34 =>
 fF s0u4.1 v_34 h37 fun v_35 h38 =>
 Let (IntKind.wrap .i64 (s0u4.2 + 1) : Int) fun i_3 =>
 K0u3 (v_35, i_3) h38
 ) (
 new [Value.int .i64 s0.2.2.2.2.2.2.2.2.2.2.2.2.2.2.2.2.2.2.2.2.2.2.2.2.2.2.2.1, Value.int .i64 s0.2.2.2.2.2.2.2.2.2.2.2.2.2.2.2.2.2.2.2.2.2.2.2.2.2.2.2.2.1, Value.int .i64 s0.2.2.2.2.2.2.2.2.2.2.2.2.2.2.2.2.2.2.2.2.2.2.2.2.2.2.2.2.2.1, Value.int .i64 s0.2.2.2.2.2.2.2.2.2.2.2.2.2.2.2.2.2.2.2.2.2.2.2.2.2.2.2.2.2.2.1, Value.int .i64 s0.2.2.2.2.2.2.2.2.2.2.2.2.2.2.2.2.2.2.2.2.2.2.2.2.2.2.2.2.2.2.2.1, Value.int .i64 s0.2.2.2.2.2.2.2.2.2.2.2.2.2.2.2.2.2.2.2.2.2.2.2.2.2.2.2.2.2.2.2.2] h37 fun a_5 h39 =>
 Let ((⟨some a_5, 6, 6⟩ : Sl) : Sl) fun n =>
 loop (fun (s0u5 : Sl × Int) h40 (K0u4 : (Sl × Int) → Heap → Prop) =>
 iteB (decide (s0u5.2 < (n.len : Int))) (
 idxS n s0u5.2 1 fun a_6 =>
 Lift.load (Value.int .i64) a_6 h40 fun v_37 =>
 ay s0u5.1 v_37 h40 fun v_38 h41 =>
 Let (IntKind.wrap .i64 (s0u5.2 + 1) : Int) fun i_4 =>
 K0u4 (v_38, i_4) h41
 ) (
 Q s0u5.1 h40
 )
 ) (s0u4.1, 0) h39
 )
 ) (v_33, 0) h36
 )
 ) (v_26, 0) h28
 )
 ) (v_21, 0) h23
 )
 ) (v_5, 0) h6
def jL (b : Sl) (h : Heap) (Q : Bool → Heap → Prop) : Prop :=
 iX h fun v h0 =>
 iteB (!v) (
 Q false h0
 ) (
 iteB (decide ((b.len : Int) > 3000)) (
 Q true h0
 ) (
 new [] h0 fun a h1 =>
 aP 1 1 (⟨some a, 0, 0⟩ : Sl) b h1 fun v_2 h2 =>
 eX v_2 h2 fun v_3 h3 =>
 mem h3 fun h4 =>
 seq (fun (K0 : Bool → Heap → Prop) =>
 iteB (v_3.2 == 3) (
 iteB (v_3.1.1 == 0) (
 K0 true h4
 ) (
 iteB (v_3.2 == 0) (
 yM b h4 fun v_4 =>
 jx (v_3.1.1, v_3.1.2.1, v_3.1.2.2.1, v_3.1.2.2.2.1, v_3.1.2.2.2.2.1, v_3.1.2.2.2.2.2.1, v_3.1.2.2.2.2.2.2.1, v_3.1.2.2.2.2.2.2.2.1, v_3.1.2.2.2.2.2.2.2.2.1, v_3.1.2.2.2.2.2.2.2.2.2.1, v_3.1.2.2.2.2.2.2.2.2.2.2.1, v_3.1.2.2.2.2.2.2.2.2.2.2.2.1, v_3.1.2.2.2.2.2.2.2.2.2.2.2.2.1, v_3.1.2.2.2.2.2.2.2.2.2.2.2.2.2.1, v_3.1.2.2.2.2.2.2.2.2.2.2.2.2.2.2.1, v_3.1.2.2.2.2.2.2.2.2.2.2.2.2.2.2.2.1, v_3.1.2.2.2.2.2.2.2.2.2.2.2.2.2.2.2.2.1, v_3.1.2.2.2.2.2.2.2.2.2.2.2.2.2.2.2.2.2.1, v_3.1.2.2.2.2.2.2.2.2.2.2.2.2.2.2.2.2.2.2.1, v_3.1.2.2.2.2.2.2.2.2.2.2.2.2.2.2.2.2.2.2.2.1, v_3.1.2.2.2.2.2.2.2.2.2.2.2.2.2.2.2.2.2.2.2.2.1, v_3.1.2.2.2.2.2.2.2.2.2.2.2.2.2.2.2.2.2.2.2.2.2.1, v_3.1.2.2.2.2.2.2.2.2.2.2.2.2.2.2.2.2.2.2.2.2.2.2.1, v_3.1.2.2.2.2.2.2.2.2.2.2.2.2.2.2.2.2.2.2.2.2.2.2.2.1, v_3.1.2.2.2.2.2.2.2.2.2.2.2.2.2.2.2.2.2.2.2.2.2.2.2.2.1, v_3.1.2.2.2.2.2.2.2.2.2.2.2.2.2.2.2.2.2.2.2.2.2.2.2.2.2.1, v_3.1.2.2.2.2.2.2.2.2.2.2.2.2.2.2.2.2.2.2.2.2.2.2.2.2.2.2.1, v_3.1.2.2.2.2.2.2.2.2.2.2.2.2.2.2.2.2.2.2.2.2.2.2.2.2.2.2.2.1, v_3.1.2.2.2.2.2.2.2.2.2.2.2.2.2.2.2.2.2.2.2.2.2.2.2.2.2.2.2.2.1, v_3.1.2.2.2.2.2.2.2.2.2.2.2.2.2.2.2.2.2.2.2.2.2.2.2.2.2.2.2.2.2.1, v_3.1.2.2.2.2.2.2.2.2.2.2.2.2.2.2.2.2.2.2.2.2.2.2.2.2.2.2.2.2.2.2.1, v_3.1.2.2.2.2.2.2.2.2.2.2.2.2.2.2.2.2.2.2.2.2.2.2.2.2.2.2.2.2.2.2.2.1, v_3.1.2.2.2.2.2.2.2.2.2.2.2.2.2.2.2.2.2.2.2.2.2.2.2.2.2.2.2.2.2.2.2.2) h4 fun v_5 h6 =>
 (ajr b h6 v_4) ∧
 yM v_5 h6 fun v_6 =>
 iteB (v_6.toList == v_4.toList) (
 fO (v_3.1.1, v_3.1.2.1, v_3.1.2.2.1, v_3.1.2.2.2.1, v_3.1.2.2.2.2.1, v_3.1.2.2.2.2.2.1, v_3.1.2.2.2.2.2.2.1, v_3.1.2.2.2.2.2.2.2.1, v_3.1.2.2.2.2.2.2.2.2.1, v_3.1.2.2.2.2.2.2.2.2.2.1, v_3.1.2.2.2.2.2.2.2.2.2.2.1, v_3.1.2.2.2.2.2.2.2.2.2.2.2.1, v_3.1.2.2.2.2.2.2.2.2.2.2.2.2.1, v_3.1.2.2.2.2.2.2.2.2.2.2.2.2.2.1, v_3.1.2.2.2.2.2.2.2.2.2.2.2.2.2.2.1, v_3.1.2.2.2.2.2.2.2.2.2.2.2.2.2.2.2.1, v_3.1.2.2.2.2.2.2.2.2.2.2.2.2.2.2.2.2.1, v_3.1.2.2.2.2.2.2.2.2.2.2.2.2.2.2.2.2.2.1, v_3.1.2.2.2.2.2.2.2.2.2.2.2.2.2.2.2.2.2.2.1, v_3.1.2.2.2.2.2.2.2.2.2.2.2.2.2.2.2.2.2.2.2.1, v_3.1.2.2.2.2.2.2.2.2.2.2.2.2.2.2.2.2.2.2.2.2.1, v_3.1.2.2.2.2.2.2.2.2.2.2.2.2.2.2.2.2.2.2.2.2.2.1, v_3.1.2.2.2.2.2.2.2.2.2.2.2.2.2.2.2.2.2.2.2.2.2.2.1, v_3.1.2.2.2.2.2.2.2.2.2.2.2.2.2.2.2.2.2.2.2.2.2.2.2.1, v_3.1.2.2.2.2.2.2.2.2.2.2.2.2.2.2.2.2.2.2.2.2.2.2.2.2.1, v_3.1.2.2.2.2.2.2.2.2.2.2.2.2.2.2.2.2.2.2.2.2.2.2.2.2.2.1, v_3.1.2.2.2.2.2.2.2.2.2.2.2.2.2.2.2.2.2.2.2.2.2.2.2.2.2.2.1, v_3.1.2.2.2.2.2.2.2.2.2.2.2.2.2.2.2.2.2.2.2.2.2.2.2.2.2.2.2.1, v_3.1.2.2.2.2.2.2.2.2.2.2.2.2.2.2.2.2.2.2.2.2.2.2.2.2.2.2.2.2.1, v_3.1.2.2.2.2.2.2.2.2.2.2.2.2.2.2.2.2.2.2.2.2.2.2.2.2.2.2.2.2.2.1, v_3.1.2.2.2.2.2.2.2.2.2.2.2.2.2.2.2.2.2.2.2.2.2.2.2.2.2.2.2.2.2.2.1, v_3.1.2.2.2.2.2.2.2.2.2.2.2.2.2.2.2.2.2.2.2.2.2.2.2.2.2.2.2.2.2.2.2.1, v_3.1.2.2.2.2.2.2.2.2.2.2.2.2.2.2.2.2.2.2.2.2.2.2.2.2.2.2.2.2.2.2.2.2) h6 fun v_7 h7 =>
 K0 v_7 h7
 ) (
 K0 false h6
 )
 ) (
 K0 false h4
 )
 )
 ) (
 iteB (v_3.2 == 0) (
 yM b h4 fun v_8 =>
 jx (v_3.1.1, v_3.1.2.1, v_3.1.2.2.1, v_3.1.2.2.2.1, v_3.1.2.2.2.2.1, v_3.1.2.2.2.2.2.1, v_3.1.2.2.2.2.2.2.1, v_3.1.2.2.2.2.2.2.2.1, v_3.1.2.2.2.2.2.2.2.2.1, v_3.1.2.2.2.2.2.2.2.2.2.1, v_3.1.2.2.2.2.2.2.2.2.2.2.1, v_3.1.2.2.2.2.2.2.2.2.2.2.2.1, v_3.1.2.2.2.2.2.2.2.2.2.2.2.2.1, v_3.1.2.2.2.2.2.2.2.2.2.2.2.2.2.1, v_3.1.2.2.2.2.2.2.2.2.2.2.2.2.2.2.1, v_3.1.2.2.2.2.2.2.2.2.2.2.2.2.2.2.2.1, v_3.1.2.2.2.2.2.2.2.2.2.2.2.2.2.2.2.2.1, v_3.1.2.2.2.2.2.2.2.2.2.2.2.2.2.2.2.2.2.1, v_3.1.2.2.2.2.2.2.2.2.2.2.2.2.2.2.2.2.2.2.1, v_3.1.2.2.2.2.2.2.2.2.2.2.2.2.2.2.2.2.2.2.2.1, v_3.1.2.2.2.2.2.2.2.2.2.2.2.2.2.2.2.2.2.2.2.2.1, v_3.1.2.2.2.2.2.2.2.2.2.2.2.2.2.2.2.2.2.2.2.2.2.1, v_3.1.2.2.2.2.2.2.2.2.2.2.2.2.2.2.2.2.2.2.2.2.2.2.1, v_3.1.2.2.2.2.2.2.2.2.2.2.2.2.2.2.2.2.2.2.2.2.2.2.2.1, v_3.1.2.2.2.2.2.2.2.2.2.2.2.2.2.2.2.2.2.2.2.2.2.2.2.2.1, v_3.1.2.2.2.2.2.2.2.2.2.2.2.2.2.2.2.2.2.2.2.2.2.2.2.2.2.1, v_3.1.2.2.2.2.2.2.2.2.2.2.2.2.2.2.2.2.2.2.2.2.2.2.2.2.2.2.1, v_3.1.2.2.2.2.2.2.2.2.2.2.2.2.2.2.2.2.2.2.2.2.2.2.2.2.2.2.2.1, v_3.1.2.2.2.2.2.2.2.2.2.2.2.2.2.2.2.2.2.2.2.2.2.2.2.2.2.2.2.2.1, v_3.1.2.2.2.2.2.2.2.2.2.2.2.2.2.2.2.2.2.2.2.2.2.2.2.2.2.2.2.2.2.1, v_3.1.2.2.2.2.2.2.2.2.2.2.2.2.2.2.2.2.2.2.2.2.2.2.2.2.2.2.2.2.2.2.1, v_3.1.2.2.2.2.2.2.2.2.2.2.2.2.2.2.2.2.2.2.2.2.2.2.2.2.2.2.2.2.2.2.2.1, v_3.1.2.2.2.2.2.2.2.2.2.2.2.2.2.2.2.2.2.2.2.2.2.2.2.2.2.2.2.2.2.2.2.2) h4 fun v_9 h8 =>
 (ajr b h8 v_8) ∧
 yM v_9 h8 fun v_10 =>
 iteB (v_10.toList == v_8.toList) (
 fO (v_3.1.1, v_3.1.2.1, v_3.1.2.2.1, v_3.1.2.2.2.1, v_3.1.2.2.2.2.1, v_3.1.2.2.2.2.2.1, v_3.1.2.2.2.2.2.2.1, v_3.1.2.2.2.2.2.2.2.1, v_3.1.2.2.2.2.2.2.2.2.1, v_3.1.2.2.2.2.2.2.2.2.2.1, v_3.1.2.2.2.2.2.2.2.2.2.2.1, v_3.1.2.2.2.2.2.2.2.2.2.2.2.1, v_3.1.2.2.2.2.2.2.2.2.2.2.2.2.1, v_3.1.2.2.2.2.2.2.2.2.2.2.2.2.2.1, v_3.1.2.2.2.2.2.2.2.2.2.2.2.2.2.2.1, v_3.1.2.2.2.2.2.2.2.2.2.2.2.2.2.2.2.1, v_3.1.2.2.2.2.2.2.2.2.2.2.2.2.2.2.2.2.1, v_3.1.2.2.2.2.2.2.2.2.2.2.2.2.2.2.2.2.2.1, v_3.1.2.2.2.2.2.2.2.2.2.2.2.2.2.2.2.2.2.2.1, v_3.1.2.2.2.2.2.2.2.2.2.2.2.2.2.2.2.2.2.2.2.1, v_3.1.2.2.2.2.2.2.2.2.2.2.2.2.2.2.2.2.2.2.2.2.1, v_3.1.2.2.2.2.2.2.2.2.2.2.2.2.2.2.2.2.2.2.2.2.2.1, v_3.1.2.2.2.2.2.2.2.2.2.2.2.2.2.2.2.2.2.2.2.2.2.2.1, v_3.1.2.2.2.2.2.2.2.2.2.2.2.2.2.2.2.2.2.2.2.2.2.2.2.1, v_3.1.2.2.2.2.2.2.2.2.2.2.2.2.2.2.2.2.2.2.2.2.2.2.2.2.1, v_3.1.2.2.2.2.2.2.2.2.2.2.2.2.2.2.2.2.2.2.2.2.2.2.2.2.2.1, v_3.1.2.2.2.2.2.2.2.2.2.2.2.2.2.2.2.2.2.2.2.2.2.2.2.2.2.2.1, v_3.1.2.2.2.2.2.2.2.2.2.2.2.2.2.2.2.2.2.2.2.2.2.2.2.2.2.2.2.1, v_3.1.2.2.2.2.2.2.2.2.2.2.2.2.2.2.2.2.2.2.2.2.2.2.2.2.2.2.2.2.1, v_3.1.2.2.2.2.2.2.2.2.2.2.2.2.2.2.2.2.2.2.2.2.2.2.2.2.2.2.2.2.2.1, v_3.1.2.2.2.2.2.2.2.2.2.2.2.2.2.2.2.2.2.2.2.2.2.2.2.2.2.2.2.2.2.2.1, v_3.1.2.2.2.2.2.2.2.2.2.2.2.2.2.2.2.2.2.2.2.2.2.2.2.2.2.2.2.2.2.2.2.1, v_3.1.2.2.2.2.2.2.2.2.2.2.2.2.2.2.2.2.2.2.2.2.2.2.2.2.2.2.2.2.2.2.2.2) h8 fun v_11 h9 =>
 K0 v_11 h9
 ) (
 K0 false h8
 )
 ) (
 K0 false h4
 )
 )
 ) (fun t0 h5 =>
 Q t0 h5
 )
 )
 )
end Go.Sh

/-
  Laws that the proof of this claim's statement leans on, each proved under the conditions that it states.
-/
import Derived.Test.YtlclchgingkkhaaGreatDoorFwC
set_option linter.unusedVariables false
set_option linter.unusedSimpArgs false
namespace Go.Sh
open Go Go.Lift
def aE (x : Bool × Int × Int × Bool × Bool × Sl × Sl × Bool × Sl × Sl) : List Value := [Value.bool x.1, Value.int .i64 x.2.1, Value.int .i64 x.2.2.1, Value.bool x.2.2.2.1, Value.bool x.2.2.2.2.1, Sl.toV x.2.2.2.2.2.1, Sl.toV x.2.2.2.2.2.2.1, Value.bool x.2.2.2.2.2.2.2.1, Sl.toV x.2.2.2.2.2.2.2.2.1, Sl.toV x.2.2.2.2.2.2.2.2.2]
def agf (x : Bool × Sl) : List Value := [Value.bool x.1, Sl.toV x.2]
def ar (x : Bool × Sl × Sl) : List Value := [Value.bool x.1, Sl.toV x.2.1, Sl.toV x.2.2]
def ae (x : Bool × Sl × Sl × Bool × Sl × Sl) : List Value := [Value.bool x.1, Sl.toV x.2.1, Sl.toV x.2.2.1, Value.bool x.2.2.2.1, Sl.toV x.2.2.2.2.1, Sl.toV x.2.2.2.2.2]
def am (x : Bool × Sl × Sl × Sl) : List Value := [Value.bool x.1, Sl.toV x.2.1, Sl.toV x.2.2.1, Sl.toV x.2.2.2]
def aj (x : Int × Bool × Sl × Sl) : List Value := [Value.int .i64 x.1, Value.bool x.2.1, Sl.toV x.2.2.1, Sl.toV x.2.2.2]
def ai (x : Int × Bool × Sl × Sl × Bool × Sl × Sl) : List Value := [Value.int .i64 x.1, Value.bool x.2.1, Sl.toV x.2.2.1, Sl.toV x.2.2.2.1, Value.bool x.2.2.2.2.1, Sl.toV x.2.2.2.2.2.1, Sl.toV x.2.2.2.2.2.2]
def sP (x : Int × Int × Sl × Sl × Sl × Sl × Sl) : List Value := [Value.int .i64 x.1, Value.int .i64 x.2.1, Sl.toV x.2.2.1, Sl.toV x.2.2.2.1, Sl.toV x.2.2.2.2.1, Sl.toV x.2.2.2.2.2.1, Sl.toV x.2.2.2.2.2.2]
def agB (x : Sl × Int) : List Value := [Sl.toV x.1, Value.int .i64 x.2]
def aI (x : Sl × Sl × Sl × Sl × Sl) : List Value := [Sl.toV x.1, Sl.toV x.2.1, Sl.toV x.2.2.1, Sl.toV x.2.2.2.1, Sl.toV x.2.2.2.2]
abbrev ao : Nat := 0
def aY (x0 : Sl) (h : Heap) (Q : Sl → Heap → Prop) : Prop :=
 loop (fun (s0 : Sl) h0 (K0 : Sl → Heap → Prop) =>
 seq (fun (K0u1 : Bool → Heap → Prop) =>
 iteB (decide ((s0.len : Int) > 0)) (
 idxS s0 (IntKind.wrap .i64 ((s0.len : Int) - 1)) 1 fun a =>
 Lift.load (Value.int .u32) a h0 fun v =>
 K0u1 (v == 0) h0
 ) (
 K0u1 false h0
 )
 ) (fun t0 h1 =>
 iteB t0 (
 sliceOf s0 none (some (IntKind.wrap .i64 ((s0.len : Int) - 1))) none 1 fun v_1 =>
 K0 v_1 h1
 ) (
 Q s0 h1
 )
 )
 ) x0 h
def kI (n : Int) (h : Heap) (Q : Sl → Heap → Prop) : Prop :=
 new [Value.int .u32 (IntKind.wrap .u32 n), Value.int .u32 (IntKind.wrap .u32 (Int.fdiv n (2 ^ (min (Int.toNat 32) (IntKind.bits .u64)))))] h fun a h0 =>
 aY (⟨some a, 2, 2⟩ : Sl) h0 fun v_1 h1 =>
 Q v_1 h1
def dm (n : Int) (h : Heap) (Q : (Bool × Sl × Sl) → Heap → Prop) : Prop :=
 mem h fun h0 =>
 Let (IntKind.wrap .u64 n : Int) fun size =>
 seq (fun (K0 : Int → Heap → Prop) =>
 iteB (decide (n < 0)) (
 Let (IntKind.wrap .u64 (0 - size) : Int) fun size_1 =>
 K0 size_1 h0
 ) (
 K0 size h0
 )
 ) (fun t0 h1 =>
 kI t0 h1 fun v h2 =>
 Q (decide (n < 0), v, Sl.nil) h2
 )
def bb (s0 : Sl) (h : Heap) (Q : Sl → Heap → Prop) : Prop :=
 iteB s0.a.isNone (
 Q Sl.nil h
 ) (
 new [] h fun a h0 =>
 aG 4 80 (⟨some a, 0, 0⟩ : Sl) s0 h0 fun v_1 h1 =>
 Q v_1 h1
 )
def fD (p : Int × Int × Sl × Sl × Sl × Sl × Sl) (h : Heap) (Q : (Sl × Sl × Sl × Sl × Sl) → Heap → Prop) : Prop :=
 mem h fun h0 =>
 Let (IntKind.wrap .i64 (p.2.1 + (p.2.2.1.len : Int)) : Int) fun n =>
 loop (fun (s0 : Int × Sl × Sl × Sl × Sl × Sl) h1 (K0 : (Int × Sl × Sl × Sl × Sl × Sl) → Heap → Prop) =>
 iteB (decide (s0.1 < (p.2.2.1.len : Int))) (
 new [Value.int .i64 (IntKind.wrap .i64 (p.2.1 + s0.1))] h1 fun a h2 =>
 aG 1 8 s0.2.1 (⟨some a, 1, 1⟩ : Sl) h2 fun v_1 h3 =>
 K0 (IntKind.wrap .i64 (s0.1 + 1), v_1, s0.2.2.1, s0.2.2.2.1, s0.2.2.2.2.1, s0.2.2.2.2.2) h3
 ) (
 bb p.2.2.1 h1 fun v_2 h4 =>
 seq (fun (K0u1 : (Sl × Sl × Sl × Sl × Sl) → Heap → Prop) =>
 (
 mkS [Value.bool false, Sl.toV Sl.nil, Sl.toV Sl.nil, Value.bool false, Sl.toV Sl.nil, Sl.toV Sl.nil] 112 n n h4 fun v_3 h6 =>
 (
 mkS [Value.int .i64 0, Value.bool false, Sl.toV Sl.nil, Sl.toV Sl.nil, Value.bool false, Sl.toV Sl.nil, Sl.toV Sl.nil] 120 n n h6 fun v_11 h14 =>
 mkS [Value.int .i64 0, Value.bool false, Sl.toV Sl.nil, Sl.toV Sl.nil, Value.bool false, Sl.toV Sl.nil, Sl.toV Sl.nil] 120 n n h14 fun v_13 h16 =>
 K0u1 (s0.2.1, v_2, v_3, v_11, v_13) h16
 ) ∧ (
 mkS [Value.int .i64 0, Value.bool false, Sl.toV Sl.nil, Sl.toV Sl.nil, Value.bool false, Sl.toV Sl.nil, Sl.toV Sl.nil] 120 n n h6 fun v_14 h17 =>
 mkS [Value.int .i64 0, Value.bool false, Sl.toV Sl.nil, Sl.toV Sl.nil, Value.bool false, Sl.toV Sl.nil, Sl.toV Sl.nil] 120 n n h17 fun v_15 h18 =>
 K0u1 (s0.2.1, v_2, v_3, v_15, v_14) h18
 )
 ) ∧ (
 mkS [Value.int .i64 0, Value.bool false, Sl.toV Sl.nil, Sl.toV Sl.nil, Value.bool false, Sl.toV Sl.nil, Sl.toV Sl.nil] 120 n n h4 fun v_16 h19 =>
 (
 mkS [Value.bool false, Sl.toV Sl.nil, Sl.toV Sl.nil, Value.bool false, Sl.toV Sl.nil, Sl.toV Sl.nil] 112 n n h19 fun v_17 h20 =>
 mkS [Value.int .i64 0, Value.bool false, Sl.toV Sl.nil, Sl.toV Sl.nil, Value.bool false, Sl.toV Sl.nil, Sl.toV Sl.nil] 120 n n h20 fun v_20 h23 =>
 K0u1 (s0.2.1, v_2, v_17, v_16, v_20) h23
 ) ∧ (
 mkS [Value.int .i64 0, Value.bool false, Sl.toV Sl.nil, Sl.toV Sl.nil, Value.bool false, Sl.toV Sl.nil, Sl.toV Sl.nil] 120 n n h19 fun v_21 h24 =>
 mkS [Value.bool false, Sl.toV Sl.nil, Sl.toV Sl.nil, Value.bool false, Sl.toV Sl.nil, Sl.toV Sl.nil] 112 n n h24 fun v_22 h25 =>
 K0u1 (s0.2.1, v_2, v_22, v_16, v_21) h25
 )
 ) ∧ (
 mkS [Value.int .i64 0, Value.bool false, Sl.toV Sl.nil, Sl.toV Sl.nil, Value.bool false, Sl.toV Sl.nil, Sl.toV Sl.nil] 120 n n h4 fun v_23 h26 =>
 (
 mkS [Value.bool false, Sl.toV Sl.nil, Sl.toV Sl.nil, Value.bool false, Sl.toV Sl.nil, Sl.toV Sl.nil] 112 n n h26 fun v_24 h27 =>
 mkS [Value.int .i64 0, Value.bool false, Sl.toV Sl.nil, Sl.toV Sl.nil, Value.bool false, Sl.toV Sl.nil, Sl.toV Sl.nil] 120 n n h27 fun v_26 h29 =>
 K0u1 (s0.2.1, v_2, v_24, v_26, v_23) h29
 ) ∧ (
 mkS [Value.int .i64 0, Value.bool false, Sl.toV Sl.nil, Sl.toV Sl.nil, Value.bool false, Sl.toV Sl.nil, Sl.toV Sl.nil] 120 n n h26 fun v_27 h30 =>
 mkS [Value.bool false, Sl.toV Sl.nil, Sl.toV Sl.nil, Value.bool false, Sl.toV Sl.nil, Sl.toV Sl.nil] 112 n n h30 fun v_28 h31 =>
 K0u1 (s0.2.1, v_2, v_28, v_27, v_23) h31
 )
 )
 ) (fun t0 h5 =>
 Q t0 h5
 )
 )
 ) (0, Sl.nil, Sl.nil, Sl.nil, Sl.nil, Sl.nil) h0
def mf (limbs : Int) (h : Heap) (Q : ((Option Addr)) → Heap → Prop) : Prop :=
 new [Value.int .i64 (if 1 > limbs then 1 else limbs), Value.bool false] h fun a h0 =>
 Q (some a) h0
def lG (n : Int) (h : Heap) (Q : (Bool × Sl × Sl × Bool × Sl × Sl) → Heap → Prop) : Prop :=
 mem h fun h0 =>
 dm n h0 fun v h1 =>
 Q (v.1, v.2.1, v.2.2, false, Sl.nil, Sl.nil) h1
def cR (t0 : (Option Addr)) (upper : Bool) (h : Heap) (Q : (Sl × Int) → Heap → Prop) : Prop :=
 mem h fun h0 =>
 iteB upper (
 aX t0 fun a =>
 Lift.load Sl.toV (a.add 4) h0 fun v =>
 Q (v, 1) h0
 ) (
 aX t0 fun a_1 =>
 Lift.load Sl.toV (a_1.add 3) h0 fun v_1 =>
 Q (v_1, (-1)) h0
 )
def lp (h : Heap) (Q : Sl → Heap → Prop) : Prop :=
 new [Value.int .u32 1] h fun a h0 =>
 Q (⟨some a, 1, 1⟩ : Sl) h0
def ck (x0 : Bool × Sl × Sl) (h : Heap) (Q : Sl → Heap → Prop) : Prop :=
 mem h fun h0 =>
 iteB ((x0.2.2.len : Int) == 0) (
 lp h0 fun v h1 =>
 Q v h1
 ) (
 Q x0.2.2 h0
 )
def cV (h : Heap) (Q : ((Option Addr)) → Heap → Prop) : Prop :=
 mf 16777216 h fun v h0 =>
 Q v h0
def iK (x0 : Sl) (y : Sl) (h : Heap) (Q : Sl → Heap → Prop) : Prop :=
 Let (IntKind.wrap .i64 ((x0.len : Int) + (y.len : Int)) : Int) fun t15 =>
 mkS [Value.int .u32 0] 4 t15 t15 h fun v h0 =>
 loop (fun (s0 : Int) h1 (K0 : Int → Heap → Prop) =>
 iteB (decide (s0 < (x0.len : Int))) (
 idxS x0 s0 1 fun a =>
 Lift.load (Value.int .u32) a h1 fun v_1 =>
 loop (fun (s0u1 : Int × Int) h2 (K0u1 : (Int × Int) → Heap → Prop) =>
 iteB (decide (s0u1.2 < (y.len : Int))) (
 idxS y s0u1.2 1 fun a_1 =>
 Lift.load (Value.int .u32) a_1 h2 fun v_2 =>
 idxS v (IntKind.wrap .i64 (s0 + s0u1.2)) 1 fun a_2 =>
 Lift.load (Value.int .u32) a_2 h2 fun v_3 =>
 Let (IntKind.wrap .u64 (s0u1.1 + (IntKind.wrap .u64 ((IntKind.wrap .u64 ((IntKind.wrap .u64 v_1) * (IntKind.wrap .u64 v_2))) + (IntKind.wrap .u64 v_3)))) : Int) fun carry =>
 idxS v (IntKind.wrap .i64 (s0 + s0u1.2)) 1 fun a_3 =>
 Lift.agT a_3 (Value.int .u32 (IntKind.wrap .u32 carry)) h2 fun h3 =>
 Let (Int.fdiv carry (2 ^ (min (Int.toNat 32) (IntKind.bits .u64))) : Int) fun carry_1 =>
 K0u1 (carry_1, IntKind.wrap .i64 (s0u1.2 + 1)) h3
 ) (
 idxS v (IntKind.wrap .i64 (s0 + (y.len : Int))) 1 fun a_4 =>
 Lift.agT a_4 (Value.int .u32 (IntKind.wrap .u32 s0u1.1)) h2 fun h4 =>
 K0 (IntKind.wrap .i64 (s0 + 1)) h4
 )
 ) (0, 0) h1
 ) (
 Q v h1
 )
 ) 0 h0
def ay (s0 : Sl) (h : Heap) (Q : Sl → Heap → Prop) : Prop :=
 iteB s0.a.isNone (
 Q Sl.nil h
 ) (
 new [] h fun a h0 =>
 aG 1 4 (⟨some a, 0, 0⟩ : Sl) s0 h0 fun v_1 h1 =>
 Q v_1 h1
 )
def bQ (b : (Option Addr)) (x0 : Sl) (h : Heap) (Q : Sl → Heap → Prop) : Prop :=
 aY x0 h fun v h0 =>
 seq (fun (K0 : Unit → Heap → Prop) =>
 aX b fun a =>
 Lift.load Value.bool (a.add 1) h0 fun v_1 =>
 iteB v_1 (
 aX b fun a_1 =>
 Lift.agT (a_1.add 1) (Value.bool true) h0 fun h2 =>
 K0 () h2
 ) (
 aX b fun a_2 =>
 Lift.load (Value.int .i64) (a_2.add 0) h0 fun v_2 =>
 aX b fun a_3 =>
 Lift.agT (a_3.add 1) (Value.bool (decide ((v.len : Int) > v_2))) h0 fun h3 =>
 K0 () h3
 )
 ) (fun t0 h1 =>
 aX b fun a_4 =>
 Lift.load Value.bool (a_4.add 1) h1 fun v_3 =>
 iteB v_3 (
 Q Sl.nil h1
 ) (
 ay v h1 fun v_4 h4 =>
 Q v_4 h4
 )
 )
def br (b : (Option Addr)) (x0 : Sl) (y : Sl) (h : Heap) (Q : Sl → Heap → Prop) : Prop :=
 aY x0 h fun v h0 =>
 aY y h0 fun v_1 h1 =>
 iK v v_1 h1 fun v_2 h2 =>
 bQ b v_2 h2 fun v_3 h3 =>
 Q v_3 h3
def jq (x0 : Bool × Sl) (n : Sl) (h : Heap) (Q : (Bool × Sl) → Heap → Prop) : Prop :=
 mem h fun h0 =>
 cV h0 fun v h1 =>
 br v x0.2 n h1 fun v_1 h2 =>
 Q (x0.1, v_1) h2
def ig (x0 : Bool × Sl × Sl) (y : Bool × Sl × Sl) (h : Heap) (Q : ((Bool × Sl) × (Bool × Sl)) → Heap → Prop) : Prop :=
 mem h fun h0 =>
 ck y h0 fun v h1 =>
 jq (x0.1, x0.2.1) v h1 fun v_1 h2 =>
 ck x0 h2 fun v_2 h3 =>
 jq (y.1, y.2.1) v_2 h3 fun v_3 h4 =>
 Q (v_1, v_3) h4
def jd (x0 : Sl) (y : Sl) (h : Heap) (Q : Sl → Heap → Prop) : Prop :=
 loop (fun (s0 : Sl × Int × Int) h0 (K0 : (Sl × Int × Int) → Heap → Prop) =>
 iteB (decide (s0.2.2 < (if (y.len : Int) > (x0.len : Int) then (y.len : Int) else (x0.len : Int)))) (
 loop (fun (s0u1 : Int × Int) h1 (K0u1 : (Int × Int) → Heap → Prop) =>
 iteB (decide (s0u1.2 < 2)) (
 seq (fun (K0u2 : Int → Heap → Prop) =>
 idxV Sl.toV [Sl.toV x0, Sl.toV y] 2 s0u1.2 1 fun v =>
 iteB (decide (s0.2.2 < (v.len : Int))) (
 idxS v s0.2.2 1 fun a =>
 Lift.load (Value.int .u32) a h1 fun v_1 =>
 Let (IntKind.wrap .u64 (s0u1.1 + (IntKind.wrap .u64 v_1)) : Int) fun carry =>
 K0u2 carry h1
 ) (
 K0u2 s0u1.1 h1
 )
 ) (fun t0 h2 =>
 K0u1 (t0, IntKind.wrap .i64 (s0u1.2 + 1)) h2
 )
 ) (
 new [Value.int .u32 (IntKind.wrap .u32 s0u1.1)] h1 fun a_1 h3 =>
 aG 1 4 s0.1 (⟨some a_1, 1, 1⟩ : Sl) h3 fun v_3 h4 =>
 Let (Int.fdiv s0u1.1 (2 ^ (min (Int.toNat 32) (IntKind.bits .u64))) : Int) fun carry_1 =>
 K0 (v_3, carry_1, IntKind.wrap .i64 (s0.2.2 + 1)) h4
 )
 ) (s0.2.1, 0) h0
 ) (
 new [Value.int .u32 (IntKind.wrap .u32 s0.2.1)] h0 fun a_2 h5 =>
 aG 1 4 s0.1 (⟨some a_2, 1, 1⟩ : Sl) h5 fun v_5 h6 =>
 Q v_5 h6
 )
 ) (Sl.nil, 0, 0) h
def cz (b : (Option Addr)) (x0 : Sl) (y : Sl) (h : Heap) (Q : Sl → Heap → Prop) : Prop :=
 jd x0 y h fun v h0 =>
 bQ b v h0 fun v_1 h1 =>
 Q v_1 h1
def lJ (n : Int) (h : Heap) (Q : Int → Heap → Prop) : Prop :=
 Q (if (-1) > (if 1 < n then 1 else n) then (-1) else (if 1 < n then 1 else n)) h
def gW (x0 : Sl) (y : Sl) (h : Heap) (Q : Int → Heap → Prop) : Prop :=
 aY x0 h fun v h0 =>
 aY y h0 fun v_1 h1 =>
 iteB ((v.len : Int) != (v_1.len : Int)) (
 lJ (IntKind.wrap .i64 ((v.len : Int) - (v_1.len : Int))) h1 fun v_2 h2 =>
 Q v_2 h2
 ) (
 Let (IntKind.wrap .i64 ((v.len : Int) - 1) : Int) fun i =>
 loop (fun (s0 : Int) h3 (K0 : Int → Heap → Prop) =>
 iteB (decide (s0 ≥ 0)) (
 idxS v s0 1 fun a =>
 Lift.load (Value.int .u32) a h3 fun v_3 =>
 idxS v_1 s0 1 fun a_1 =>
 Lift.load (Value.int .u32) a_1 h3 fun v_4 =>
 iteB (v_3 != v_4) (
 idxS v s0 1 fun a_2 =>
 Lift.load (Value.int .u32) a_2 h3 fun v_5 =>
 idxS v_1 s0 1 fun a_3 =>
 Lift.load (Value.int .u32) a_3 h3 fun v_6 =>
 lJ (IntKind.wrap .i64 ((IntKind.wrap .i64 v_5) - (IntKind.wrap .i64 v_6))) h3 fun v_7 h4 =>
 Q v_7 h4
 ) (
 Let (IntKind.wrap .i64 (s0 - 1) : Int) fun i_1 =>
 K0 i_1 h3
 )
 ) (
 Q 0 h3
 )
 ) i h1
 )
def fH (x0 : Sl) (y : Sl) (h : Heap) (Q : Sl → Heap → Prop) : Prop :=
 loop (fun (s0 : Sl × Int × Int) h0 (K0 : (Sl × Int × Int) → Heap → Prop) =>
 iteB (decide (s0.2.2 < (x0.len : Int))) (
 idxS x0 s0.2.2 1 fun a =>
 Lift.load (Value.int .u32) a h0 fun v =>
 Let (IntKind.wrap .u64 ((IntKind.wrap .u64 v) - s0.2.1) : Int) fun d =>
 seq (fun (K0u1 : Int → Heap → Prop) =>
 iteB (decide (s0.2.2 < (y.len : Int))) (
 idxS y s0.2.2 1 fun a_1 =>
 Lift.load (Value.int .u32) a_1 h0 fun v_1 =>
 Let (IntKind.wrap .u64 (d - (IntKind.wrap .u64 v_1)) : Int) fun d_1 =>
 K0u1 d_1 h0
 ) (
 K0u1 d h0
 )
 ) (fun t0 h1 =>
 new [Value.int .u32 (IntKind.wrap .u32 t0)] h1 fun a_2 h2 =>
 aG 1 4 s0.1 (⟨some a_2, 1, 1⟩ : Sl) h2 fun v_3 h3 =>
 Let (Int.fdiv t0 (2 ^ (min (Int.toNat 63) (IntKind.bits .u64))) : Int) fun borrow =>
 K0 (v_3, borrow, IntKind.wrap .i64 (s0.2.2 + 1)) h3
 )
 ) (
 aY s0.1 h0 fun v_4 h4 =>
 Q v_4 h4
 )
 ) (Sl.nil, 0, 0) h
def cS (b : (Option Addr)) (x0 : Sl) (y : Sl) (h : Heap) (Q : Sl → Heap → Prop) : Prop :=
 gW x0 y h fun v h0 =>
 iteB (decide (v < 0)) (
 Q Sl.nil h0
 ) (
 aY y h0 fun v_1 h1 =>
 fH x0 v_1 h1 fun v_2 h2 =>
 bQ b v_2 h2 fun v_3 h3 =>
 Q v_3 h3
 )
def lk (x0 : Bool × Sl) (y : Bool × Sl) (h : Heap) (Q : (Bool × Sl) → Heap → Prop) : Prop :=
 mem h fun h0 =>
 cV h0 fun v h1 =>
 iteB (x0.1 == y.1) (
 cz v x0.2 y.2 h1 fun v_1 h2 =>
 Q (x0.1, v_1) h2
 ) (
 gW x0.2 y.2 h1 fun v_2 h3 =>
 iteB (decide (v_2 ≥ 0)) (
 cS v x0.2 y.2 h3 fun v_3 h4 =>
 Q (x0.1, v_3) h4
 ) (
 cS v y.2 x0.2 h3 fun v_4 h5 =>
 Q (y.1, v_4) h5
 )
 )
def iV (x0 : Bool × Sl × Sl) (y : Bool × Sl × Sl) (h : Heap) (Q : Int → Heap → Prop) : Prop :=
 mem h fun h0 =>
 ig x0 y h0 fun v h1 =>
 mem h1 fun h2 =>
 lk (v.1.1, v.1.2) ((!v.2.1), v.2.2) h2 fun v_1 h3 =>
 mem h3 fun h4 =>
 iteB ((v_1.2.len : Int) == 0) (
 Q 0 h4
 ) (
 iteB v_1.1 (
 Q (-1) h4
 ) (
 Q 1 h4
 )
 )
def gB (x0 : Bool × Sl × Sl × Bool × Sl × Sl) (y : Bool × Sl × Sl × Bool × Sl × Sl) (h : Heap) (Q : Int → Heap → Prop) : Prop :=
 mem h fun h0 =>
 iV (x0.1, x0.2.1, x0.2.2.1) (y.1, y.2.1, y.2.2.1) h0 fun v h1 =>
 iteB (v != 0) (
 Q v h1
 ) (
 iV (x0.2.2.2.1, x0.2.2.2.2.1, x0.2.2.2.2.2) (y.2.2.2.1, y.2.2.2.2.1, y.2.2.2.2.2) h1 fun v_1 h2 =>
 Q v_1 h2
 )
def bU (s0 : Sl × Int) (v : Int) (x0 : Bool × Sl × Sl × Bool × Sl × Sl) (h : Heap) (Q : Bool → Heap → Prop) : Prop :=
 mem h fun h0 =>
 idxS s0.1 v 7 fun a =>
 aC ai 7 a h0 fun v_1 =>
 mem h0 fun h1 =>
 seq (fun (K0 : Bool → Heap → Prop) =>
 iteB (v_1.1 != 0) (
 gB x0 (v_1.2.1, v_1.2.2.1, v_1.2.2.2.1, v_1.2.2.2.2.1, v_1.2.2.2.2.2.1, v_1.2.2.2.2.2.2) h1 fun v_2 h3 =>
 K0 (decide ((IntKind.wrap .i64 (v_2 * s0.2)) > 0)) h3
 ) (
 K0 false h1
 )
 ) (fun t0 h2 =>
 Q t0 h2
 )
def cZ (s0 : Sl) (v : Int) (h : Heap) (Q : Int → Heap → Prop) : Prop :=
 loop (fun (s0u1 : Int) h0 (K0 : Int → Heap → Prop) =>
 iteB (decide (s0u1 < (s0.len : Int))) (
 idxS s0 s0u1 1 fun a =>
 Lift.load (Value.int .i64) a h0 fun v_1 =>
 iteB (v == v_1) (
 Q s0u1 h0
 ) (
 K0 (IntKind.wrap .i64 (s0u1 + 1)) h0
 )
 ) (
 Q (-1) h0
 )
 ) 0 h
def dR (t0 : Sl × Sl × Sl × Sl × Sl) (v : Int) (h : Heap) (Q : Int → Heap → Prop) : Prop :=
 mem h fun h0 =>
 cZ t0.1 v h0 fun v_1 h1 =>
 Q v_1 h1
def i4 (x0 : Bool × Sl × Sl) (h : Heap) (Q : (Bool × Sl × Sl) → Heap → Prop) : Prop :=
 mem h fun h0 =>
 seq (fun (K0 : Bool → Heap → Prop) =>
 iteB (!x0.1) (
 Let (decide ((x0.2.1.len : Int) > 0) : Bool) fun neg =>
 K0 neg h0
 ) (
 K0 false h0
 )
 ) (fun t0 h1 =>
 ay x0.2.1 h1 fun v h2 =>
 ay x0.2.2 h2 fun v_1 h3 =>
 Q (t0, v, v_1) h3
 )
def fI (x0 : Sl) (h : Heap) (Q : (Int × Bool) → Heap → Prop) : Prop :=
 aY x0 h fun v h0 =>
 Let (IntKind.wrap .i64 ((v.len : Int) - 1) : Int) fun i =>
 loop (fun (s0 : Int × Int) h1 (K0 : (Int × Int) → Heap → Prop) =>
 iteB (decide (s0.2 ≥ 0)) (
 idxS v s0.2 1 fun a =>
 Lift.load (Value.int .u32) a h1 fun v_1 =>
 Let (IntKind.wrap .u64 (((BitVec.ofInt (IntKind.bits .u64) (IntKind.wrap .u64 (s0.1 * 2 ^ (min (Int.toNat 32) (IntKind.bits .u64)))) ||| BitVec.ofInt (IntKind.bits .u64) (IntKind.wrap .u64 v_1)).toNat : Int)) : Int) fun n =>
 Let (IntKind.wrap .i64 (s0.2 - 1) : Int) fun i_1 =>
 K0 (n, i_1) h1
 ) (
 Let (decide ((v.len : Int) ≤ 2) : Bool) fun ok =>
 Q (s0.1, ok) h1
 )
 ) (0, i) h0
def bt (x0 : Int) (h : Heap) (Q : Int → Heap → Prop) : Prop :=
 iteB (x0 == 0) (
 Q 32 h
 ) (
 ((0 : Int) ≤ ((Int.fdiv (IntKind.wrap .u32 ((IntKind.wrap .u32 (((BitVec.ofInt (IntKind.bits .u32) x0 &&& BitVec.ofInt (IntKind.bits .u32) (IntKind.wrap .u32 (0 - x0))).toNat : Int))) * 125613361)) (2 ^ (min (Int.toNat 27) (IntKind.bits .u32)))) : Int) ∧ ((Int.fdiv (IntKind.wrap .u32 ((IntKind.wrap .u32 (((BitVec.ofInt (IntKind.bits .u32) x0 &&& BitVec.ofInt (IntKind.bits .u32) (IntKind.wrap .u32 (0 - x0))).toNat : Int))) * 125613361)) (2 ^ (min (Int.toNat 27) (IntKind.bits .u32)))) : Int) < 32) ∧
 Lift.load (Value.int .u8) ((⟨ao, 0, none⟩ : Addr).add (Int.toNat (Int.fdiv (IntKind.wrap .u32 ((IntKind.wrap .u32 (((BitVec.ofInt (IntKind.bits .u32) x0 &&& BitVec.ofInt (IntKind.bits .u32) (IntKind.wrap .u32 (0 - x0))).toNat : Int))) * 125613361)) (2 ^ (min (Int.toNat 27) (IntKind.bits .u32)))) * 1)) h fun v =>
 Q (IntKind.wrap .i64 v) h
 )
def gp (x0 : Sl) (h : Heap) (Q : (Sl × Int) → Heap → Prop) : Prop :=
 loop (fun (s0 : Int) h0 (K0 : Int → Heap → Prop) =>
 idxS x0 (IntKind.wrap .i64 (Int.tdiv s0 32)) 1 fun a =>
 Lift.load (Value.int .u32) a h0 fun v =>
 iteB (v == 0) (
 Let (IntKind.wrap .i64 (s0 + 32) : Int) fun k =>
 K0 k h0
 ) (
 idxS x0 (IntKind.wrap .i64 (Int.tdiv s0 32)) 1 fun a_1 =>
 Lift.load (Value.int .u32) a_1 h0 fun v_1 =>
 bt v_1 h0 fun v_2 h1 =>
 Let (IntKind.wrap .i64 (s0 + v_2) : Int) fun k_1 =>
 sliceOf x0 (some (IntKind.wrap .i64 (Int.tdiv k_1 32))) none none 1 fun v_3 =>
 ay v_3 h1 fun v_4 h2 =>
 seq (fun (K0u1 : Unit → Heap → Prop) =>
 Let (Int.tmod k_1 32 : Int) fun s0u1 =>
 iteB (decide (s0u1 > 0)) (
 loop (fun (s0u2 : Int) h4 (K0u2 : Int → Heap → Prop) =>
 iteB (decide (s0u2 < (v_4.len : Int))) (
 seq (fun (K0u3 : Unit → Heap → Prop) =>
 idxS v_4 s0u2 1 fun a_2 =>
 Lift.load (Value.int .u32) a_2 h4 fun v_5 =>
 (0 ≤ s0u1) ∧
 idxS v_4 s0u2 1 fun a_3 =>
 Lift.agT a_3 (Value.int .u32 (Int.fdiv v_5 (2 ^ (min (Int.toNat s0u1) (IntKind.bits .u32))))) h4 fun h6 =>
 iteB (decide ((IntKind.wrap .i64 (s0u2 + 1)) < (v_4.len : Int))) (
 idxS v_4 s0u2 1 fun a_4 =>
 Lift.load (Value.int .u32) a_4 h6 fun v_6 =>
 idxS v_4 (IntKind.wrap .i64 (s0u2 + 1)) 1 fun a_5 =>
 Lift.load (Value.int .u32) a_5 h6 fun v_7 =>
 (0 ≤ (IntKind.wrap .i64 (32 - s0u1))) ∧
 idxS v_4 s0u2 1 fun a_6 =>
 Lift.agT a_6 (Value.int .u32 (IntKind.wrap .u32 (((BitVec.ofInt (IntKind.bits .u32) v_6 ||| BitVec.ofInt (IntKind.bits .u32) (IntKind.wrap .u32 (v_7 * 2 ^ (min (Int.toNat (IntKind.wrap .i64 (32 - s0u1))) (IntKind.bits .u32))))).toNat : Int)))) h6 fun h7 =>
 K0u3 () h7
 ) (
 K0u3 () h6
 )
 ) (fun t0u1 h5 =>
 K0u2 (IntKind.wrap .i64 (s0u2 + 1)) h5
 )
 ) (
 K0u1 () h4
 )
 ) 0 h2
 ) (
 K0u1 () h2
 )
 ) (fun t0 h3 =>
 aY v_4 h3 fun v_8 h8 =>
 Q (v_8, k_1) h8
 )
 )
 ) 0 h
def js (x0 : Sl) (k : Int) (h : Heap) (Q : Sl → Heap → Prop) : Prop :=
 Let (IntKind.wrap .i64 ((IntKind.wrap .i64 (Int.tdiv k 32)) + 1) : Int) fun t8 =>
 mkS [Value.int .u32 0] 4 t8 t8 h fun v h0 =>
 (0 ≤ (Int.tmod k 32)) ∧
 idxS v (IntKind.wrap .i64 (Int.tdiv k 32)) 1 fun a =>
 Lift.agT a (Value.int .u32 (IntKind.wrap .u32 (1 * 2 ^ (min (Int.toNat (Int.tmod k 32)) (IntKind.bits .u32))))) h0 fun h1 =>
 iK x0 v h1 fun v_1 h2 =>
 aY v_1 h2 fun v_2 h3 =>
 Q v_2 h3
def jc (x0 : Sl) (y : Sl) (h : Heap) (Q : Sl → Heap → Prop) : Prop :=
 aY x0 h fun v h0 =>
 aY y h0 fun v_1 h1 =>
 iteB ((v.len : Int) == 0) (
 Q v_1 h1
 ) (
 iteB ((v_1.len : Int) == 0) (
 Q v h1
 ) (
 seq (fun (K0 : Unit → Heap → Prop) =>
 fI v h1 fun v_2 h3 =>
 iteB v_2.2 (
 fI v_1 h3 fun v_3 h4 =>
 iteB v_3.2 (
 loop (fun (s0 : Int × Int) h5 (K0u1 : (Int × Int) → Heap → Prop) =>
 iteB (s0.2 != 0) (
 (s0.2 ≠ 0) ∧
 Let (Int.tmod s0.1 s0.2 : Int) fun m0 =>
 K0u1 (s0.2, m0) h5
 ) (
 kI s0.1 h5 fun v_4 h6 =>
 Q v_4 h6
 )
 ) (v_2.1, v_3.1) h4
 ) (
 K0 () h4
 )
 ) (
 K0 () h3
 )
 ) (fun t0 h2 =>
 gp v h2 fun v_5 h7 =>
 gp v_1 h7 fun v_6 h8 =>
 loop (fun (s0u1 : Sl × Sl) h9 (K0u2 : (Sl × Sl) → Heap → Prop) =>
 gW s0u1.1 s0u1.2 h9 fun v_7 h10 =>
 iteB (v_7 != 0) (
 seq (fun (K0u3 : (Sl × Sl) → Heap → Prop) =>
 gW s0u1.1 s0u1.2 h10 fun v_8 h12 =>
 iteB (decide (v_8 < 0)) (
 K0u3 (s0u1.2, s0u1.1) h12
 ) (
 K0u3 s0u1 h12
 )
 ) (fun t0u1 h11 =>
 fH t0u1.1 t0u1.2 h11 fun v_9 h13 =>
 gp v_9 h13 fun v_10 h14 =>
 K0u2 (v_10.1, t0u1.2) h14
 )
 ) (
 js s0u1.1 (if v_6.2 < v_5.2 then v_6.2 else v_5.2) h10 fun v_11 h15 =>
 Q v_11 h15
 )
 ) (v_5.1, v_6.1) h8
 )
 )
 )
def cQ (b : (Option Addr)) (x0 : Sl) (y : Sl) (h : Heap) (Q : Sl → Heap → Prop) : Prop :=
 jc x0 y h fun v h0 =>
 bQ b v h0 fun v_1 h1 =>
 Q v_1 h1
def oS (x0 : Sl) (at0 : Int) (h : Heap) (Q : Int → Heap → Prop) : Prop :=
 idxS x0 (IntKind.wrap .i64 (Int.tdiv at0 32)) 1 fun a =>
 Lift.load (Value.int .u32) a h fun v =>
 (0 ≤ (Int.tmod at0 32)) ∧
 Q (IntKind.wrap .u32 (((BitVec.ofInt (IntKind.bits .u32) (Int.fdiv v (2 ^ (min (Int.toNat (Int.tmod at0 32)) (IntKind.bits .u32)))) &&& BitVec.ofInt (IntKind.bits .u32) 1).toNat : Int))) h
def jr (x0 : Sl) (y : Sl) (h : Heap) (Q : (Sl × Sl) → Heap → Prop) : Prop :=
 fI x0 h fun v h0 =>
 fI y h0 fun v_1 h1 =>
 seq (fun (K0 : Bool → Heap → Prop) =>
 iteB v.2 (
 K0 v_1.2 h1
 ) (
 K0 false h1
 )
 ) (fun t0 h2 =>
 iteB t0 (
 (v_1.1 ≠ 0) ∧
 (v_1.1 ≠ 0) ∧
 kI (IntKind.wrap .u64 (Int.tdiv v.1 v_1.1)) h2 fun v_2 h3 =>
 kI (Int.tmod v.1 v_1.1) h3 fun v_3 h4 =>
 Q (v_2, v_3) h4
 ) (
 aY x0 h2 fun v_4 h5 =>
 aY y h5 fun v_5 h6 =>
 Let ((v_4.len : Int) : Int) fun t38 =>
 mkS [Value.int .u32 0] 4 t38 t38 h6 fun v_6 h7 =>
 Let (IntKind.wrap .i64 ((IntKind.wrap .i64 ((v_4.len : Int) * 32)) - 1) : Int) fun at0 =>
 loop (fun (s0 : Sl × Int) h8 (K0u1 : (Sl × Int) → Heap → Prop) =>
 iteB (decide (s0.2 ≥ 0)) (
 seq (fun (K0u2 : Sl → Heap → Prop) =>
 jd s0.1 s0.1 h8 fun v_7 h10 =>
 idxS v_7 0 1 fun a =>
 Lift.load (Value.int .u32) a h10 fun v_8 =>
 oS v_4 s0.2 h10 fun v_9 h11 =>
 (cell? h11 a = some (Value.int .u32 v_8)) ∧
 idxS v_7 0 1 fun a_1 =>
 Lift.agT a_1 (Value.int .u32 (IntKind.wrap .u32 (((BitVec.ofInt (IntKind.bits .u32) v_8 ||| BitVec.ofInt (IntKind.bits .u32) v_9).toNat : Int)))) h11 fun h12 =>
 aY v_7 h12 fun v_10 h13 =>
 gW v_10 v_5 h13 fun v_11 h14 =>
 iteB (decide (v_11 ≥ 0)) (
 fH v_10 v_5 h14 fun v_12 h15 =>
 idxS v_6 (IntKind.wrap .i64 (Int.tdiv s0.2 32)) 1 fun a_2 =>
 Lift.load (Value.int .u32) a_2 h15 fun v_13 =>
 (0 ≤ (Int.tmod s0.2 32)) ∧
 idxS v_6 (IntKind.wrap .i64 (Int.tdiv s0.2 32)) 1 fun a_3 =>
 Lift.agT a_3 (Value.int .u32 (IntKind.wrap .u32 (((BitVec.ofInt (IntKind.bits .u32) v_13 ||| BitVec.ofInt (IntKind.bits .u32) (IntKind.wrap .u32 (1 * 2 ^ (min (Int.toNat (Int.tmod s0.2 32)) (IntKind.bits .u32))))).toNat : Int)))) h15 fun h16 =>
 K0u2 v_12 h16
 ) (
 K0u2 v_10 h14
 )
 ) (fun t0u1 h9 =>
 Let (IntKind.wrap .i64 (s0.2 - 1) : Int) fun at0u1 =>
 K0u1 (t0u1, at0u1) h9
 )
 ) (
 aY v_6 h8 fun v_14 h17 =>
 Q (v_14, s0.1) h17
 )
 ) (Sl.nil, at0) h7
 )
 )
def cT (b : (Option Addr)) (x0 : Sl) (y : Sl) (h : Heap) (Q : (Sl × Sl) → Heap → Prop) : Prop :=
 aY y h fun v h0 =>
 iteB ((v.len : Int) == 0) (
 Q (Sl.nil, Sl.nil) h0
 ) (
 jr x0 y h0 fun v_1 h1 =>
 bQ b v_1.1 h1 fun v_2 h2 =>
 bQ b v_1.2 h2 fun v_3 h3 =>
 aX b fun a =>
 Lift.load Value.bool (a.add 1) h3 fun v_4 =>
 iteB v_4 (
 Q (Sl.nil, Sl.nil) h3
 ) (
 Q (v_2, v_3) h3
 )
 )
def bT (s1 : Sl) (s2 : Sl) (h : Heap) (Q : Bool → Heap → Prop) : Prop :=
 iteB ((s1.len : Int) != (s2.len : Int)) (
 Q false h
 ) (
 loop (fun (s0 : Int) h0 (K0 : Int → Heap → Prop) =>
 iteB (decide (s0 < (s1.len : Int))) (
 idxS s1 s0 1 fun a =>
 Lift.load (Value.int .u32) a h0 fun v =>
 idxS s2 s0 1 fun a_1 =>
 Lift.load (Value.int .u32) a_1 h0 fun v_1 =>
 iteB (v != v_1) (
 Q false h0
 ) (
 K0 (IntKind.wrap .i64 (s0 + 1)) h0
 )
 ) (
 Q true h0
 )
 ) 0 h
 )
def dS (x0 : Sl) (h : Heap) (Q : Bool → Heap → Prop) : Prop :=
 lp h fun v h0 =>
 bT x0 v h0 fun v_1 h1 =>
 Q v_1 h1
def eU (neg : Bool) (num : Sl) (d : Sl) (h : Heap) (Q : (Bool × Sl × Sl) → Heap → Prop) : Prop :=
 mem h fun h0 =>
 cV h0 fun v h1 =>
 cQ v num d h1 fun v_1 h2 =>
 cT v num v_1 h2 fun v_2 h3 =>
 cT v d v_1 h3 fun v_3 h4 =>
 seq (fun (K0 : Sl → Heap → Prop) =>
 dS v_3.1 h4 fun v_4 h6 =>
 iteB v_4 (
 K0 Sl.nil h6
 ) (
 K0 v_3.1 h6
 )
 ) (fun t0 h5 =>
 iteB ((v_2.1.len : Int) == 0) (
 Q (false, Sl.nil, Sl.nil) h5
 ) (
 Q (neg, v_2.1, t0) h5
 )
 )
def aW (b : (Option Addr)) (h : Heap) (Q : Bool → Heap → Prop) : Prop :=
 aX b fun a =>
 Lift.load Value.bool (a.add 1) h fun v =>
 Q v h
def gd (b : (Option Addr)) (x0 : Bool × Sl × Sl) (h : Heap) (Q : (Bool × Sl × Sl) → Heap → Prop) : Prop :=
 mem h fun h0 =>
 cz b x0.2.1 Sl.nil h0 fun v h1 =>
 cz b x0.2.2 Sl.nil h1 fun v_1 h2 =>
 aW b h2 fun v_2 h3 =>
 iteB v_2 (
 Q (false, Sl.nil, Sl.nil) h3
 ) (
 Q x0 h3
 )
def eG (b : (Option Addr)) (x0 : Bool × Sl × Sl) (y : Bool × Sl × Sl) (h : Heap) (Q : (Bool × Sl × Sl) → Heap → Prop) : Prop :=
 mem h fun h0 =>
 ig x0 y h0 fun v h1 =>
 lk (v.1.1, v.1.2) (v.2.1, v.2.2) h1 fun v_1 h2 =>
 mem h2 fun h3 =>
 cV h3 fun v_2 h4 =>
 ck x0 h4 fun v_3 h5 =>
 ck y h5 fun v_4 h6 =>
 br v_2 v_3 v_4 h6 fun v_5 h7 =>
 eU v_1.1 v_1.2 v_5 h7 fun v_6 h8 =>
 gd b v_6 h8 fun v_7 h9 =>
 Q v_7 h9
def iP (b : (Option Addr)) (x0 : Bool × Sl × Sl) (y : Bool × Sl × Sl) (h : Heap) (Q : (Bool × Sl × Sl) → Heap → Prop) : Prop :=
 mem h fun h0 =>
 i4 y h0 fun v h1 =>
 eG b x0 v h1 fun v_1 h2 =>
 Q v_1 h2
def eF (b : (Option Addr)) (x0 : Bool × Sl × Sl × Bool × Sl × Sl) (y : Bool × Sl × Sl × Bool × Sl × Sl) (h : Heap) (Q : (Bool × Sl × Sl × Bool × Sl × Sl) → Heap → Prop) : Prop :=
 mem h fun h0 =>
 seq (fun (K0 : (Bool × Sl × Sl × Bool × Sl × Sl) → Heap → Prop) =>
 mem h0 fun h2 =>
 iP b (x0.1, x0.2.1, x0.2.2.1) (y.1, y.2.1, y.2.2.1) h2 fun v_3 h9 =>
 mem h9 fun h10 =>
 iP b (x0.2.2.2.1, x0.2.2.2.2.1, x0.2.2.2.2.2) (y.2.2.2.1, y.2.2.2.2.1, y.2.2.2.2.2) h10 fun v_4 h11 =>
 mem h11 fun h12 =>
 K0 (v_3.1, v_3.2.1, v_3.2.2, v_4.1, v_4.2.1, v_4.2.2) h12
 ) (fun t0 h1 =>
 aW b h1 fun v_5 h13 =>
 iteB v_5 (
 Q (false, Sl.nil, Sl.nil, false, Sl.nil, Sl.nil) h13
 ) (
 Q t0 h13
 )
 )
def lR (b : (Option Addr)) (x0 : Bool × Sl × Sl × Bool × Sl × Sl) (y : Bool × Sl × Sl × Bool × Sl × Sl) (h : Heap) (Q : (Bool × Sl × Sl × Bool × Sl × Sl) → Heap → Prop) : Prop :=
 mem h fun h0 =>
 eF b x0 y h0 fun v h1 =>
 Q v h1
def fi (m0 : Int × Bool × Sl × Sl) (v : Int) (h : Heap) (Q : Int → Heap → Prop) : Prop :=
 mem h fun h0 =>
 Q (IntKind.wrap .i64 (m0.1 - v)) h0
def ak (x0 : Sl) (target : Int) (h : Heap) (Q : (Int × Bool) → Heap → Prop) : Prop :=
 Let ((x0.len : Int) : Int) fun n =>
 loop (fun (s0 : Int × Int) h0 (K0 : (Int × Int) → Heap → Prop) =>
 iteB (decide (s0.1 < s0.2)) (
 Let (IntKind.wrap .i64 (Int.fdiv (IntKind.wrap .u64 (IntKind.wrap .i64 (s0.1 + s0.2))) (2 ^ (min (Int.toNat 1) (IntKind.bits .u64)))) : Int) fun h1 =>
 idxS x0 h1 4 fun a =>
 aC aj 4 a h0 fun v =>
 fi v target h0 fun v_1 h2 =>
 iteB (decide (v_1 < 0)) (
 Let (IntKind.wrap .i64 (h1 + 1) : Int) fun i =>
 K0 (i, s0.2) h2
 ) (
 K0 (s0.1, h1) h2
 )
 ) (
 seq (fun (K0u1 : (Int × Bool) → Heap → Prop) =>
 iteB (decide (s0.1 < n)) (
 idxS x0 s0.1 4 fun a_1 =>
 aC aj 4 a_1 h0 fun v_2 =>
 fi v_2 target h0 fun v_3 h4 =>
 K0u1 (s0.1, (v_3 == 0)) h4
 ) (
 K0u1 (s0.1, false) h0
 )
 ) (fun t0 h3 =>
 Q t0 h3
 )
 )
 ) (0, n) h
def eE (p : Bool × Sl × Sl × Sl) (v : Int) (h : Heap) (Q : (Bool × Sl × Sl) → Heap → Prop) : Prop :=
 mem h fun h0 =>
 ak p.2.2.2 v h0 fun v_1 h1 =>
 iteB (!v_1.2) (
 Q (false, Sl.nil, Sl.nil) h1
 ) (
 idxS p.2.2.2 v_1.1 4 fun a =>
 aC ar 3 (a.add 1) h1 fun v_2 =>
 Q v_2 h1
 )
def bR (x0 : Bool × Sl × Sl) (h : Heap) (Q : Int → Heap → Prop) : Prop :=
 mem h fun h0 =>
 iteB ((x0.2.1.len : Int) == 0) (
 Q 0 h0
 ) (
 iteB x0.1 (
 Q (-1) h0
 ) (
 Q 1 h0
 )
 )
def ge (b : (Option Addr)) (x0 : Bool × Sl × Sl) (y : Bool × Sl × Sl) (h : Heap) (Q : (Bool × Sl × Sl) → Heap → Prop) : Prop :=
 mem h fun h0 =>
 cV h0 fun v h1 =>
 br v x0.2.1 y.2.1 h1 fun v_1 h2 =>
 ck x0 h2 fun v_2 h3 =>
 ck y h3 fun v_3 h4 =>
 br v v_2 v_3 h4 fun v_4 h5 =>
 eU (!(x0.1 == y.1)) v_1 v_4 h5 fun v_5 h6 =>
 gd b v_5 h6 fun v_6 h7 =>
 Q v_6 h7
def ey (b : (Option Addr)) (x0 : Bool × Sl × Sl × Bool × Sl × Sl) (y : Bool × Sl × Sl × Bool × Sl × Sl) (h : Heap) (Q : (Bool × Sl × Sl × Bool × Sl × Sl) → Heap → Prop) : Prop :=
 mem h fun h0 =>
 seq (fun (K0 : (Bool × Sl × Sl × Bool × Sl × Sl) → Heap → Prop) =>
 mem h0 fun h2 =>
 ge b (x0.1, x0.2.1, x0.2.2.1) (y.1, y.2.1, y.2.2.1) h2 fun v_3 h9 =>
 mem h9 fun h10 =>
 ge b (x0.2.2.2.1, x0.2.2.2.2.1, x0.2.2.2.2.2) (y.2.2.2.1, y.2.2.2.2.1, y.2.2.2.2.2) h10 fun v_4 h11 =>
 mem h11 fun h12 =>
 K0 (v_3.1, v_3.2.1, v_3.2.2, v_4.1, v_4.2.1, v_4.2.2) h12
 ) (fun t0 h1 =>
 aW b h1 fun v_5 h13 =>
 iteB v_5 (
 Q (false, Sl.nil, Sl.nil, false, Sl.nil, Sl.nil) h13
 ) (
 Q t0 h13
 )
 )
def fo (b : (Option Addr)) (k : Bool × Sl × Sl) (x0 : Bool × Sl × Sl × Bool × Sl × Sl) (h : Heap) (Q : (Bool × Sl × Sl × Bool × Sl × Sl) → Heap → Prop) : Prop :=
 mem h fun h0 =>
 ey b (k.1, k.2.1, k.2.2, k.1, k.2.1, k.2.2) x0 h0 fun v h1 =>
 Q v h1
def eu (b : (Option Addr)) (x0 : Bool × Sl × Sl × Bool × Sl × Sl) (y : Bool × Sl × Sl × Bool × Sl × Sl) (h : Heap) (Q : (Bool × Sl × Sl × Bool × Sl × Sl) → Heap → Prop) : Prop :=
 mem h fun h0 =>
 seq (fun (K0 : (Bool × Sl × Sl × Bool × Sl × Sl) → Heap → Prop) =>
 mem h0 fun h2 =>
 eG b (x0.1, x0.2.1, x0.2.2.1) (y.1, y.2.1, y.2.2.1) h2 fun v_3 h9 =>
 mem h9 fun h10 =>
 eG b (x0.2.2.2.1, x0.2.2.2.2.1, x0.2.2.2.2.2) (y.2.2.2.1, y.2.2.2.2.1, y.2.2.2.2.2) h10 fun v_4 h11 =>
 mem h11 fun h12 =>
 K0 (v_3.1, v_3.2.1, v_3.2.2, v_4.1, v_4.2.1, v_4.2.2) h12
 ) (fun t0 h1 =>
 aW b h1 fun v_5 h13 =>
 iteB v_5 (
 Q (false, Sl.nil, Sl.nil, false, Sl.nil, Sl.nil) h13
 ) (
 Q t0 h13
 )
 )
def iF (b : (Option Addr)) (x0 : Bool × Sl × Sl × Bool × Sl × Sl) (y : Bool × Sl × Sl × Bool × Sl × Sl) (h : Heap) (Q : (Bool × Sl × Sl × Bool × Sl × Sl) → Heap → Prop) : Prop :=
 mem h fun h0 =>
 eu b x0 y h0 fun v h1 =>
 Q v h1
def iz (b : (Option Addr)) (h : Heap) (Q : Int → Heap → Prop) : Prop :=
 aW b h fun v h0 =>
 iteB v (
 Q 6 h0
 ) (
 Q 0 h0
 )
def dX (b : (Option Addr)) (t0 : (Option Addr)) (v : Int) (x0 : Bool × Sl × Sl × Bool × Sl × Sl) (h : Heap) (Q : Int → Heap → Prop) : Prop :=
 mem h fun h0 =>
 seq (fun (K0 : Bool → Heap → Prop) =>
 iteB (decide (v < 0)) (
 K0 true h0
 ) (
 aX t0 fun a =>
 Lift.load Sl.toV (a.add 2) h0 fun v_1 =>
 iteB (decide (v ≥ (v_1.len : Int))) (
 K0 true h0
 ) (
 aX t0 fun a_1 =>
 aC aI 5 a_1 h0 fun v_2 =>
 dR v_2 v h0 fun v_3 h2 =>
 K0 (decide (v_3 ≥ 0)) h2
 )
 )
 ) (fun t0u1 h1 =>
 iteB t0u1 (
 Q 2 h1
 ) (
 seq (fun (K0u1 : (Bool × Sl × Sl × Bool × Sl × Sl) → Heap → Prop) =>
 aX t0 fun a_2 =>
 Lift.load Sl.toV (a_2.add 2) h1 fun v_4 =>
 idxS v_4 v 6 fun a_3 =>
 aC ae 6 a_3 h1 fun v_5 =>
 mem h1 fun h4 =>
 lR b x0 v_5 h4 fun v_7 h7 =>
 mem h7 fun h8 =>
 K0u1 v_7 h8
 ) (fun t0u2 h3 =>
 aX t0 fun a_4 =>
 Lift.load Sl.toV (a_4.add 2) h3 fun v_8 =>
 idxS v_8 v 6 fun a_5 =>
 da a_5 [Value.bool x0.1, Sl.toV x0.2.1, Sl.toV x0.2.2.1, Value.bool x0.2.2.2.1, Sl.toV x0.2.2.2.2.1, Sl.toV x0.2.2.2.2.2] h3 fun h9 =>
 aX t0 fun a_6 =>
 Lift.load Sl.toV (a_6.add 1) h9 fun v_9 =>
 loop (fun (s0 : Int) h10 (K0u2 : Int → Heap → Prop) =>
 iteB (decide (s0 < (v_9.len : Int))) (
 seq (fun (K0u3 : Unit → Heap → Prop) =>
 idxS v_9 s0 4 fun a_7 =>
 aC am 4 a_7 h10 fun v_10 =>
 mem h10 fun h12 =>
 eE v_10 v h12 fun v_11 h13 =>
 mem h13 fun h14 =>
 bR v_11 h14 fun v_12 h15 =>
 iteB (v_12 != 0) (
 aX t0 fun a_8 =>
 Lift.load Sl.toV (a_8.add 0) h15 fun v_13 =>
 idxS v_13 s0 1 fun a_9 =>
 Lift.load (Value.int .i64) a_9 h15 fun v_14 =>
 aX t0 fun a_10 =>
 Lift.load Sl.toV (a_10.add 2) h15 fun v_15 =>
 aX t0 fun a_11 =>
 Lift.load Sl.toV (a_11.add 2) h15 fun v_16 =>
 idxS v_16 v_14 6 fun a_12 =>
 aC ae 6 a_12 h15 fun v_17 =>
 fo b v_11 t0u2 h15 fun v_18 h16 =>
 (cell? h16 (a_10.add 2) = some (Sl.toV v_15)) ∧
 (cell? h16 (a_11.add 2) = some (Sl.toV v_16)) ∧
 (cells? h16 a_12 6 0 = some [Value.bool v_17.1, Sl.toV v_17.2.1, Sl.toV v_17.2.2.1, Value.bool v_17.2.2.2.1, Sl.toV v_17.2.2.2.2.1, Sl.toV v_17.2.2.2.2.2]) ∧
 iF b v_17 v_18 h16 fun v_19 h17 =>
 (cell? h17 (a_10.add 2) = some (Sl.toV v_15)) ∧
 idxS v_15 v_14 6 fun a_13 =>
 da a_13 [Value.bool v_19.1, Sl.toV v_19.2.1, Sl.toV v_19.2.2.1, Value.bool v_19.2.2.2.1, Sl.toV v_19.2.2.2.2.1, Sl.toV v_19.2.2.2.2.2] h17 fun h18 =>
 K0u3 () h18
 ) (
 K0u3 () h15
 )
 ) (fun t0u3 h11 =>
 K0u2 (IntKind.wrap .i64 (s0 + 1)) h11
 )
 ) (
 iz b h10 fun v_20 h19 =>
 Q v_20 h19
 )
 ) 0 h9
 )
 )
 )
def cU (b : (Option Addr)) (t0 : (Option Addr)) (v : Int) (upper : Bool) (e : Int × Bool × Sl × Sl × Bool × Sl × Sl) (h : Heap) (Q : (Sl × Int) → Heap → Prop) : Prop :=
 mem h fun h0 =>
 seq (fun (K0 : Bool → Heap → Prop) =>
 iteB (decide (v < 0)) (
 K0 true h0
 ) (
 aX t0 fun a =>
 Lift.load Sl.toV (a.add 2) h0 fun v_1 =>
 K0 (decide (v ≥ (v_1.len : Int))) h0
 )
 ) (fun t0u1 h1 =>
 iteB t0u1 (
 Q (Sl.nil, 2) h1
 ) (
 iteB (e.1 == 0) (
 Q (Sl.nil, 1) h1
 ) (
 cR t0 upper h1 fun v_2 h2 =>
 cR t0 (!upper) h2 fun v_3 h3 =>
 mem h3 fun h4 =>
 seq (fun (K0u1 : Bool → Heap → Prop) =>
 idxS v_2.1 v 7 fun a_1 =>
 Lift.load (Value.int .i64) (a_1.add 0) h4 fun v_4 =>
 iteB (v_4 != 0) (
 idxS v_2.1 v 7 fun a_2 =>
 aC ae 6 (a_2.add 1) h4 fun v_5 =>
 gB v_5 (e.2.1, e.2.2.1, e.2.2.2.1, e.2.2.2.2.1, e.2.2.2.2.2.1, e.2.2.2.2.2.2) h4 fun v_6 h6 =>
 K0u1 (decide ((IntKind.wrap .i64 (v_6 * v_2.2)) ≤ 0)) h6
 ) (
 K0u1 false h4
 )
 ) (fun t0u2 h5 =>
 iteB t0u2 (
 Q (Sl.nil, 0) h5
 ) (
 bU v_3 v (e.2.1, e.2.2.1, e.2.2.2.1, e.2.2.2.2.1, e.2.2.2.2.2.1, e.2.2.2.2.2.2) h5 fun v_7 h7 =>
 iteB v_7 (
 idxS v_3.1 v 7 fun a_3 =>
 Lift.load (Value.int .i64) (a_3.add 0) h7 fun v_8 =>
 dm 1 h7 fun v_9 h8 =>
 (cell? h8 (a_3.add 0) = some (Value.int .i64 v_8)) ∧
 dm 1 h8 fun v_10 h9 =>
 (cell? h9 (a_3.add 0) = some (Value.int .i64 v_8)) ∧
 new [Value.int .i64 e.1, Value.bool v_9.1, Sl.toV v_9.2.1, Sl.toV v_9.2.2, Value.int .i64 v_8, Value.bool v_10.1, Sl.toV v_10.2.1, Sl.toV v_10.2.2] h9 fun a_4 h10 =>
 Q ((⟨some a_4, 2, 2⟩ : Sl), 0) h10
 ) (
 idxS v_2.1 v 7 fun a_5 =>
 da a_5 [Value.int .i64 e.1, Value.bool e.2.1, Sl.toV e.2.2.1, Sl.toV e.2.2.2.1, Value.bool e.2.2.2.2.1, Sl.toV e.2.2.2.2.2.1, Sl.toV e.2.2.2.2.2.2] h7 fun h11 =>
 seq (fun (K0u2 : Bool → Heap → Prop) =>
 aX t0 fun a_6 =>
 aC aI 5 a_6 h11 fun v_12 =>
 dR v_12 v h11 fun v_13 h13 =>
 iteB (decide (v_13 < 0)) (
 aX t0 fun a_7 =>
 Lift.load Sl.toV (a_7.add 2) h13 fun v_14 =>
 idxS v_14 v 6 fun a_8 =>
 aC ae 6 a_8 h13 fun v_15 =>
 bU v_2 v v_15 h13 fun v_16 h14 =>
 K0u2 v_16 h14
 ) (
 K0u2 false h13
 )
 ) (fun t0u3 h12 =>
 iteB t0u3 (
 dX b t0 v (e.2.1, e.2.2.1, e.2.2.2.1, e.2.2.2.2.1, e.2.2.2.2.2.1, e.2.2.2.2.2.2) h12 fun v_17 h15 =>
 Q (Sl.nil, v_17) h15
 ) (
 Q (Sl.nil, 0) h12
 )
 )
 )
 )
 )
 )
 )
 )
def hJ (t0 : (Option Addr)) (h : Heap) (Q : (Int × Bool) → Heap → Prop) : Prop :=
 aX t0 fun a =>
 Lift.load Sl.toV (a.add 0) h fun v =>
 loop (fun (s0 : Int × Bool × Int) h0 (K0 : (Int × Bool × Int) → Heap → Prop) =>
 iteB (decide (s0.2.2 < (v.len : Int))) (
 idxS v s0.2.2 1 fun a_1 =>
 Lift.load (Value.int .i64) a_1 h0 fun v_1 =>
 loop (fun (s0u1 : Int × Bool × Int) h1 (K0u1 : (Int × Bool × Int) → Heap → Prop) =>
 iteB (decide (s0u1.2.2 < 2)) (
 seq (fun (K0u2 : (Int × Bool) → Heap → Prop) =>
 idxV Value.bool [Value.bool false, Value.bool true] 2 s0u1.2.2 1 fun v_2 =>
 seq (fun (K0u3 : Bool → Heap → Prop) =>
 aX t0 fun a_2 =>
 Lift.load Sl.toV (a_2.add 2) h1 fun v_3 =>
 idxS v_3 v_1 6 fun a_3 =>
 aC ae 6 a_3 h1 fun v_4 =>
 cR t0 v_2 h1 fun v_5 h4 =>
 (cell? h4 (a_2.add 2) = some (Sl.toV v_3)) ∧
 (cells? h4 a_3 6 0 = some [Value.bool v_4.1, Sl.toV v_4.2.1, Sl.toV v_4.2.2.1, Value.bool v_4.2.2.2.1, Sl.toV v_4.2.2.2.2.1, Sl.toV v_4.2.2.2.2.2]) ∧
 bU v_5 v_1 v_4 h4 fun v_6 h5 =>
 iteB v_6 (
 iteB (decide (s0u1.1 < 0)) (
 K0u3 true h5
 ) (
 aX t0 fun a_4 =>
 Lift.load Sl.toV (a_4.add 0) h5 fun v_7 =>
 idxS v_7 s0u1.1 1 fun a_5 =>
 Lift.load (Value.int .i64) a_5 h5 fun v_8 =>
 K0u3 (decide (v_1 < v_8)) h5
 )
 ) (
 K0u3 false h5
 )
 ) (fun t0u2 h3 =>
 iteB t0u2 (
 K0u2 (s0.2.2, v_2) h3
 ) (
 K0u2 (s0u1.1, s0u1.2.1) h3
 )
 )
 ) (fun t0u1 h2 =>
 K0u1 (t0u1.1, t0u1.2, IntKind.wrap .i64 (s0u1.2.2 + 1)) h2
 )
 ) (
 K0 (s0u1.1, s0u1.2.1, IntKind.wrap .i64 (s0.2.2 + 1)) h1
 )
 ) (s0.1, s0.2.1, 0) h0
 ) (
 Q (s0.1, s0.2.1) h0
 )
 ) ((-1), false, 0) h
def gK (m0 : Int × Bool × Sl × Sl) (upper : Bool) (h : Heap) (Q : Bool → Heap → Prop) : Prop :=
 mem h fun h0 =>
 bR (m0.2.1, m0.2.2.1, m0.2.2.2) h0 fun v h1 =>
 Q (!((decide (v > 0)) == upper)) h1
def dP (s0 : Sl × Int) (v : Int) (x0 : Bool × Sl × Sl × Bool × Sl × Sl) (h : Heap) (Q : Bool → Heap → Prop) : Prop :=
 mem h fun h0 =>
 idxS s0.1 v 7 fun a =>
 aC ai 7 a h0 fun v_1 =>
 mem h0 fun h1 =>
 seq (fun (K0 : Bool → Heap → Prop) =>
 iteB (v_1.1 == 0) (
 K0 true h1
 ) (
 gB x0 (v_1.2.1, v_1.2.2.1, v_1.2.2.2.1, v_1.2.2.2.2.1, v_1.2.2.2.2.2.1, v_1.2.2.2.2.2.2) h1 fun v_2 h3 =>
 K0 (decide ((IntKind.wrap .i64 (v_2 * s0.2)) < 0)) h3
 )
 ) (fun t0 h2 =>
 Q t0 h2
 )
def iH (m0 : Int × Bool × Sl × Sl) (c0 : Addr) (c1 : Addr) (h : Heap) (Q : Bool → Heap → Prop) : Prop :=
 mem h fun h0 =>
 Lift.load Value.pointer c0 h0 fun v =>
 Lift.load Value.bool c1 h0 fun v_1 =>
 Lift.load Value.pointer c0 h0 fun v_2 =>
 aX v_2 fun a =>
 Lift.load Sl.toV (a.add 2) h0 fun v_3 =>
 idxS v_3 m0.1 6 fun a_1 =>
 aC ae 6 a_1 h0 fun v_4 =>
 gK m0 v_1 h0 fun v_5 h1 =>
 (cell? h1 c0 = some (Value.pointer v)) ∧
 (cell? h1 c0 = some (Value.pointer v_2)) ∧
 (cell? h1 (a.add 2) = some (Sl.toV v_3)) ∧
 (cells? h1 a_1 6 0 = some [Value.bool v_4.1, Sl.toV v_4.2.1, Sl.toV v_4.2.2.1, Value.bool v_4.2.2.2.1, Sl.toV v_4.2.2.2.2.1, Sl.toV v_4.2.2.2.2.2]) ∧
 cR v v_5 h1 fun v_6 h2 =>
 (cell? h2 c0 = some (Value.pointer v_2)) ∧
 (cell? h2 (a.add 2) = some (Sl.toV v_3)) ∧
 (cells? h2 a_1 6 0 = some [Value.bool v_4.1, Sl.toV v_4.2.1, Sl.toV v_4.2.2.1, Value.bool v_4.2.2.2.1, Sl.toV v_4.2.2.2.2.1, Sl.toV v_4.2.2.2.2.2]) ∧
 dP v_6 m0.1 v_4 h2 fun v_7 h3 =>
 Q v_7 h3
def aD (s0 : Sl) (f_c : Addr) (f_c_1 : Addr) (h : Heap) (Q : Int → Heap → Prop) : Prop :=
 loop (fun (s0u1 : Int) h0 (K0 : Int → Heap → Prop) =>
 iteB (decide (s0u1 < (s0.len : Int))) (
 idxS s0 s0u1 4 fun a =>
 aC aj 4 a h0 fun v =>
 iH v f_c f_c_1 h0 fun v_1 h1 =>
 iteB v_1 (
 Q s0u1 h1
 ) (
 K0 (IntKind.wrap .i64 (s0u1 + 1)) h1
 )
 ) (
 Q (-1) h0
 )
 ) 0 h
def fz (t0 : (Option Addr)) (row : Int) (upper : Bool) (h : Heap) (Q : Sl → Heap → Prop) : Prop :=
 aX t0 fun a =>
 Lift.load Sl.toV (a.add 0) h fun v =>
 idxS v row 1 fun a_1 =>
 Lift.load (Value.int .i64) a_1 h fun v_1 =>
 cR t0 upper h fun v_2 h0 =>
 (cell? h0 (a.add 0) = some (Sl.toV v)) ∧
 (cell? h0 a_1 = some (Value.int .i64 v_1)) ∧
 idxS v_2.1 v_1 7 fun a_2 =>
 Lift.load (Value.int .i64) (a_2.add 0) h0 fun v_3 =>
 dm 1 h0 fun v_4 h1 =>
 new [Value.int .i64 v_3, Value.bool v_4.1, Sl.toV v_4.2.1, Sl.toV v_4.2.2] h1 fun a_3 h2 =>
 Let ((⟨some a_3, 1, 1⟩ : Sl) : Sl) fun out =>
 aX t0 fun a_4 =>
 Lift.load Sl.toV (a_4.add 1) h2 fun v_6 =>
 idxS v_6 row 4 fun a_5 =>
 Lift.load Sl.toV (a_5.add 3) h2 fun v_7 =>
 loop (fun (s0 : Sl × Int) h3 (K0 : (Sl × Int) → Heap → Prop) =>
 iteB (decide (s0.2 < (v_7.len : Int))) (
 idxS v_7 s0.2 4 fun a_6 =>
 aC aj 4 a_6 h3 fun v_8 =>
 mem h3 fun h4 =>
 mem h4 fun h5 =>
 seq (fun (K0u1 : (Bool × Sl × Sl) → Heap → Prop) =>
 bR (v_8.2.1, v_8.2.2.1, v_8.2.2.2) h5 fun v_9 h7 =>
 iteB (decide (v_9 < 0)) (
 i4 (v_8.2.1, v_8.2.2.1, v_8.2.2.2) h7 fun v_10 h8 =>
 K0u1 v_10 h8
 ) (
 K0u1 (v_8.2.1, v_8.2.2.1, v_8.2.2.2) h7
 )
 ) (fun t0u1 h6 =>
 gK v_8 upper h6 fun v_11 h9 =>
 cR t0 v_11 h9 fun v_12 h10 =>
 idxS v_12.1 v_8.1 7 fun a_7 =>
 Lift.load (Value.int .i64) (a_7.add 0) h10 fun v_13 =>
 new [Value.int .i64 v_13, Value.bool t0u1.1, Sl.toV t0u1.2.1, Sl.toV t0u1.2.2] h10 fun a_8 h11 =>
 aG 4 64 s0.1 (⟨some a_8, 1, 1⟩ : Sl) h11 fun v_15 h12 =>
 K0 (v_15, IntKind.wrap .i64 (s0.2 + 1)) h12
 )
 ) (
 Q s0.1 h3
 )
 ) (out, 0) h2
def lH (b : (Option Addr)) (x0 : Bool × Sl × Sl) (y : Bool × Sl × Sl) (h : Heap) (Q : (Bool × Sl × Sl) → Heap → Prop) : Prop :=
 mem h fun h0 =>
 bR y h0 fun v h1 =>
 iteB (v == 0) (
 Q (false, Sl.nil, Sl.nil) h1
 ) (
 cV h1 fun v_1 h2 =>
 ck y h2 fun v_2 h3 =>
 br v_1 x0.2.1 v_2 h3 fun v_3 h4 =>
 ck x0 h4 fun v_4 h5 =>
 br v_1 v_4 y.2.1 h5 fun v_5 h6 =>
 eU (!(x0.1 == y.1)) v_3 v_5 h6 fun v_6 h7 =>
 gd b v_6 h7 fun v_7 h8 =>
 Q v_7 h8
 )
def rL (v : Int) (h : Heap) (Q : (Bool × Sl × Sl × Sl) → Heap → Prop) : Prop :=
 mem h fun h0 =>
 dm 1 h0 fun v_1 h1 =>
 new [Value.int .i64 v, Value.bool v_1.1, Sl.toV v_1.2.1, Sl.toV v_1.2.2] h1 fun a h2 =>
 Q (false, Sl.nil, Sl.nil, (⟨some a, 1, 1⟩ : Sl)) h2
def dG (x0 : Bool × Sl × Sl) (c0 : Addr) (c1 : Addr) (h : Heap) (Q : (Bool × Sl × Sl) → Heap → Prop) : Prop :=
 mem h fun h0 =>
 Lift.load Value.pointer c0 h0 fun v =>
 aC ar 3 c1 h0 fun v_1 =>
 ge v v_1 x0 h0 fun v_2 h1 =>
 Q v_2 h1
def gQ (b : (Option Addr)) (p : Bool × Sl × Sl × Sl) (h : Heap) (Q : (Bool × Sl × Sl × Sl) → Heap → Prop) : Prop :=
 mem h fun h0 =>
 aW b h0 fun v h1 =>
 iteB v (
 Q (false, Sl.nil, Sl.nil, Sl.nil) h1
 ) (
 Q p h1
 )
def fL (b : (Option Addr)) (k : Bool × Sl × Sl) (p : Bool × Sl × Sl × Sl) (h : Heap) (Q : (Bool × Sl × Sl × Sl) → Heap → Prop) : Prop :=
 new [Value.pointer b] h fun b_1 h0 =>
 new [Value.bool k.1, Sl.toV k.2.1, Sl.toV k.2.2] h0 fun k_1 h1 =>
 mem h1 fun h2 =>
 aC ar 3 k_1 h2 fun v =>
 bR v h2 fun v_1 h3 =>
 iteB (v_1 == 0) (
 Q (false, Sl.nil, Sl.nil, Sl.nil) h3
 ) (
 dG (p.1, p.2.1, p.2.2.1) b_1 k_1 h3 fun v_2 h4 =>
 mem h4 fun h5 =>
 loop (fun (s0 : Int × Bool × Sl × Sl × Sl) h6 (K0 : (Int × Bool × Sl × Sl × Sl) → Heap → Prop) =>
 iteB (decide (s0.1 < (p.2.2.2.len : Int))) (
 idxS p.2.2.2 s0.1 4 fun a =>
 aC aj 4 a h6 fun v_3 =>
 mem h6 fun h7 =>
 dG (v_3.2.1, v_3.2.2.1, v_3.2.2.2) b_1 k_1 h7 fun v_4 h8 =>
 new [Value.int .i64 v_3.1, Value.bool v_4.1, Sl.toV v_4.2.1, Sl.toV v_4.2.2] h8 fun a_1 h9 =>
 aG 4 64 s0.2.2.2.2 (⟨some a_1, 1, 1⟩ : Sl) h9 fun v_6 h10 =>
 K0 (IntKind.wrap .i64 (s0.1 + 1), s0.2.1, s0.2.2.1, s0.2.2.2.1, v_6) h10
 ) (
 Lift.load Value.pointer b_1 h6 fun v_7 =>
 gQ v_7 (s0.2.1, s0.2.2.1, s0.2.2.2.1, s0.2.2.2.2) h6 fun v_8 h11 =>
 Q v_8 h11
 )
 ) (0, v_2.1, v_2.2.1, v_2.2.2, Sl.nil) h5
 )
def dj (p : Bool × Sl × Sl × Sl) (v : Int) (h : Heap) (Q : (Bool × Sl × Sl × Sl) → Heap → Prop) : Prop :=
 mem h fun h0 =>
 mem h0 fun h1 =>
 loop (fun (s0 : Int × Bool × Sl × Sl × Sl) h2 (K0 : (Int × Bool × Sl × Sl × Sl) → Heap → Prop) =>
 iteB (decide (s0.1 < (p.2.2.2.len : Int))) (
 seq (fun (K0u1 : (Bool × Sl × Sl × Sl) → Heap → Prop) =>
 idxS p.2.2.2 s0.1 4 fun a =>
 aC aj 4 a h2 fun v_1 =>
 mem h2 fun h4 =>
 iteB (v_1.1 != v) (
 new [Value.int .i64 v_1.1, Value.bool v_1.2.1, Sl.toV v_1.2.2.1, Sl.toV v_1.2.2.2] h4 fun a_1 h5 =>
 aG 4 64 s0.2.2.2.2 (⟨some a_1, 1, 1⟩ : Sl) h5 fun v_3 h6 =>
 K0u1 (s0.2.1, s0.2.2.1, s0.2.2.2.1, v_3) h6
 ) (
 K0u1 (s0.2.1, s0.2.2.1, s0.2.2.2.1, s0.2.2.2.2) h4
 )
 ) (fun t0 h3 =>
 K0 (IntKind.wrap .i64 (s0.1 + 1), t0.1, t0.2.1, t0.2.2.1, t0.2.2.2) h3
 )
 ) (
 Q (s0.2.1, s0.2.2.1, s0.2.2.2.1, s0.2.2.2.2) h2
 )
 ) (0, p.1, p.2.1, p.2.2.1, Sl.nil) h1
def je (b : (Option Addr)) (p : Bool × Sl × Sl × Sl) (k : Bool × Sl × Sl) (q : Bool × Sl × Sl × Sl) (h : Heap) (Q : (Bool × Sl × Sl × Sl) → Heap → Prop) : Prop :=
 mem h fun h0 =>
 fL b k q h0 fun v h1 =>
 eG b (p.1, p.2.1, p.2.2.1) (v.1, v.2.1, v.2.2.1) h1 fun v_1 h2 =>
 mem h2 fun h3 =>
 loop (fun (s0 : Sl × Sl × Bool × Sl × Sl × Sl) h4 (K0 : (Sl × Sl × Bool × Sl × Sl × Sl) → Heap → Prop) =>
 seq (fun (K0u1 : Bool → Heap → Prop) =>
 iteB (decide ((s0.1.len : Int) > 0)) (
 K0u1 true h4
 ) (
 K0u1 (decide ((s0.2.1.len : Int) > 0)) h4
 )
 ) (fun t0 h5 =>
 iteB t0 (
 mem h5 fun h6 =>
 seq (fun (K0u2 : (Sl × Sl × Int × Bool × Sl × Sl) → Heap → Prop) =>
 seq (fun (K0u3 : Bool → Heap → Prop) =>
 iteB ((s0.2.1.len : Int) == 0) (
 K0u3 true h6
 ) (
 iteB (decide ((s0.1.len : Int) > 0)) (
 idxS s0.1 0 4 fun a =>
 Lift.load (Value.int .i64) (a.add 0) h6 fun v_2 =>
 idxS s0.2.1 0 4 fun a_1 =>
 Lift.load (Value.int .i64) (a_1.add 0) h6 fun v_3 =>
 K0u3 (decide (v_2 < v_3)) h6
 ) (
 K0u3 false h6
 )
 )
 ) (fun t0u2 h8 =>
 iteB t0u2 (
 idxS s0.1 0 4 fun a_2 =>
 aC aj 4 a_2 h8 fun v_4 =>
 sliceOf s0.1 (some 1) none none 4 fun v_5 =>
 K0u2 (v_5, s0.2.1, v_4.1, v_4.2.1, v_4.2.2.1, v_4.2.2.2) h8
 ) (
 seq (fun (K0u4 : Bool → Heap → Prop) =>
 iteB ((s0.1.len : Int) == 0) (
 K0u4 true h8
 ) (
 idxS s0.1 0 4 fun a_3 =>
 Lift.load (Value.int .i64) (a_3.add 0) h8 fun v_6 =>
 idxS s0.2.1 0 4 fun a_4 =>
 Lift.load (Value.int .i64) (a_4.add 0) h8 fun v_7 =>
 K0u4 (decide (v_6 > v_7)) h8
 )
 ) (fun t0u3 h9 =>
 iteB t0u3 (
 idxS s0.2.1 0 4 fun a_5 =>
 aC aj 4 a_5 h9 fun v_8 =>
 sliceOf s0.2.1 (some 1) none none 4 fun v_9 =>
 K0u2 (s0.1, v_9, v_8.1, v_8.2.1, v_8.2.2.1, v_8.2.2.2) h9
 ) (
 idxS s0.1 0 4 fun a_6 =>
 Lift.load (Value.int .i64) (a_6.add 0) h9 fun v_10 =>
 idxS s0.1 0 4 fun a_7 =>
 aC ar 3 (a_7.add 1) h9 fun v_11 =>
 idxS s0.2.1 0 4 fun a_8 =>
 aC ar 3 (a_8.add 1) h9 fun v_12 =>
 eG b v_11 v_12 h9 fun v_13 h10 =>
 (cell? h10 (a_6.add 0) = some (Value.int .i64 v_10)) ∧
 sliceOf s0.1 (some 1) none none 4 fun v_14 =>
 sliceOf s0.2.1 (some 1) none none 4 fun v_15 =>
 K0u2 (v_14, v_15, v_10, v_13.1, v_13.2.1, v_13.2.2) h10
 )
 )
 )
 )
 ) (fun t0u1 h7 =>
 bR (t0u1.2.2.2.1, t0u1.2.2.2.2.1, t0u1.2.2.2.2.2) h7 fun v_16 h11 =>
 iteB (v_16 != 0) (
 new [Value.int .i64 t0u1.2.2.1, Value.bool t0u1.2.2.2.1, Sl.toV t0u1.2.2.2.2.1, Sl.toV t0u1.2.2.2.2.2] h11 fun a_9 h12 =>
 aG 4 64 s0.2.2.2.2.2 (⟨some a_9, 1, 1⟩ : Sl) h12 fun v_18 h13 =>
 K0 (t0u1.1, t0u1.2.1, s0.2.2.1, s0.2.2.2.1, s0.2.2.2.2.1, v_18) h13
 ) (
 K0 (t0u1.1, t0u1.2.1, s0.2.2.1, s0.2.2.2.1, s0.2.2.2.2.1, s0.2.2.2.2.2) h11
 )
 )
 ) (
 gQ b (s0.2.2.1, s0.2.2.2.1, s0.2.2.2.2.1, s0.2.2.2.2.2) h5 fun v_19 h14 =>
 Q v_19 h14
 )
 )
 ) (p.2.2.2, v.2.2.2, v_1.1, v_1.2.1, v_1.2.2, Sl.nil) h3
def cY (s0 : Sl) (h : Heap) (Q : Sl → Heap → Prop) : Prop :=
 iteB s0.a.isNone (
 Q Sl.nil h
 ) (
 new [] h fun a h0 =>
 aG 1 8 (⟨some a, 0, 0⟩ : Sl) s0 h0 fun v_1 h1 =>
 Q v_1 h1
 )
def gU (b : (Option Addr)) (t0 : (Option Addr)) (row : Int) (v : Int) (h : Heap) (Q : Int → Heap → Prop) : Prop :=
 seq (fun (K0 : Bool → Heap → Prop) =>
 iteB (decide (row < 0)) (
 K0 true h
 ) (
 aX t0 fun a =>
 Lift.load Sl.toV (a.add 1) h fun v_1 =>
 K0 (decide (row ≥ (v_1.len : Int))) h
 )
 ) (fun t0u1 h0 =>
 iteB t0u1 (
 Q 2 h0
 ) (
 aX t0 fun a_1 =>
 Lift.load Sl.toV (a_1.add 1) h0 fun v_2 =>
 idxS v_2 row 4 fun a_2 =>
 aC am 4 a_2 h0 fun v_3 =>
 eE v_3 v h0 fun v_4 h1 =>
 mem h1 fun h2 =>
 bR v_4 h2 fun v_5 h3 =>
 iteB (v_5 == 0) (
 Q 1 h3
 ) (
 aX t0 fun a_3 =>
 Lift.load Sl.toV (a_3.add 0) h3 fun v_6 =>
 idxS v_6 row 1 fun a_4 =>
 Lift.load (Value.int .i64) a_4 h3 fun v_7 =>
 seq (fun (K0u1 : (Bool × Sl × Sl) → Heap → Prop) =>
 mem h3 fun h5 =>
 dm 1 h5 fun v_11 h12 =>
 mem h12 fun h13 =>
 lH b v_11 v_4 h13 fun v_12 h14 =>
 mem h14 fun h15 =>
 K0u1 v_12 h15
 ) (fun t0u2 h4 =>
 seq (fun (K0u2 : (Bool × Sl × Sl × Sl) → Heap → Prop) =>
 aX t0 fun a_5 =>
 Lift.load Sl.toV (a_5.add 1) h4 fun v_13 =>
 idxS v_13 row 4 fun a_6 =>
 aC am 4 a_6 h4 fun v_14 =>
 mem h4 fun h17 =>
 rL v_7 h17 fun v_30 h48 =>
 (cell? h48 (a_5.add 1) = some (Sl.toV v_13)) ∧
 (cells? h48 a_6 4 0 = some [Value.bool v_14.1, Sl.toV v_14.2.1, Sl.toV v_14.2.2.1, Sl.toV v_14.2.2.2]) ∧
 mem h48 fun h49 =>
 fL b t0u2 v_30 h49 fun v_31 h50 =>
 (cell? h50 (a_5.add 1) = some (Sl.toV v_13)) ∧
 (cells? h50 a_6 4 0 = some [Value.bool v_14.1, Sl.toV v_14.2.1, Sl.toV v_14.2.2.1, Sl.toV v_14.2.2.2]) ∧
 mem h50 fun h51 =>
 i4 t0u2 h51 fun v_32 h52 =>
 (cell? h52 (a_5.add 1) = some (Sl.toV v_13)) ∧
 (cells? h52 a_6 4 0 = some [Value.bool v_14.1, Sl.toV v_14.2.1, Sl.toV v_14.2.2.1, Sl.toV v_14.2.2.2]) ∧
 mem h52 fun h53 =>
 dj v_14 v h53 fun v_33 h54 =>
 mem h54 fun h55 =>
 je b v_31 v_32 v_33 h55 fun v_34 h56 =>
 mem h56 fun h57 =>
 K0u2 v_34 h57
 ) (fun t0u3 h16 =>
 aX t0 fun a_7 =>
 Lift.load Sl.toV (a_7.add 1) h16 fun v_35 =>
 bb v_35 h16 fun v_36 h58 =>
 aX t0 fun a_8 =>
 Lift.load Sl.toV (a_8.add 1) h58 fun v_37 =>
 loop (fun (s0 : Int) h59 (K0u3 : Int → Heap → Prop) =>
 iteB (decide (s0 < (v_37.len : Int))) (
 seq (fun (K0u4 : Unit → Heap → Prop) =>
 idxS v_37 s0 4 fun a_9 =>
 aC am 4 a_9 h59 fun v_38 =>
 mem h59 fun h61 =>
 eE v_38 v h61 fun v_39 h62 =>
 mem h62 fun h63 =>
 bR v_39 h63 fun v_40 h64 =>
 iteB (v_40 != 0) (
 dj v_38 v h64 fun v_41 h65 =>
 je b v_41 v_39 t0u3 h65 fun v_42 h66 =>
 idxS v_36 s0 4 fun a_10 =>
 da a_10 [Value.bool v_42.1, Sl.toV v_42.2.1, Sl.toV v_42.2.2.1, Sl.toV v_42.2.2.2] h66 fun h67 =>
 K0u4 () h67
 ) (
 K0u4 () h64
 )
 ) (fun t0u4 h60 =>
 K0u3 (IntKind.wrap .i64 (s0 + 1)) h60
 )
 ) (
 idxS v_36 row 4 fun a_11 =>
 da a_11 [Value.bool t0u3.1, Sl.toV t0u3.2.1, Sl.toV t0u3.2.2.1, Sl.toV t0u3.2.2.2] h59 fun h68 =>
 aX t0 fun a_12 =>
 Lift.load Sl.toV (a_12.add 0) h68 fun v_43 =>
 cY v_43 h68 fun v_44 h69 =>
 aX t0 fun a_13 =>
 Lift.agT (a_13.add 1) (Sl.toV v_36) h69 fun h70 =>
 aX t0 fun a_14 =>
 Lift.agT (a_14.add 0) (Sl.toV v_44) h70 fun h71 =>
 aX t0 fun a_15 =>
 Lift.load Sl.toV (a_15.add 0) h71 fun v_45 =>
 idxS v_45 row 1 fun a_16 =>
 Lift.agT a_16 (Value.int .i64 v) h71 fun h72 =>
 iz b h72 fun v_46 h73 =>
 Q v_46 h73
 )
 ) 0 h58
 )
 )
 )
 )
 )
def fR (b : (Option Addr)) (t0 : (Option Addr)) (h : Heap) (Q : (Int × Sl × Int) → Heap → Prop) : Prop :=
 new [Value.pointer t0] h fun t0u1 h0 =>
 Lift.load Value.pointer t0u1 h0 fun v =>
 hJ v h0 fun v_1 h1 =>
 new [Value.bool false] h1 fun upper h2 =>
 Lift.agT upper (Value.bool v_1.2) h2 fun h3 =>
 iteB (decide (v_1.1 < 0)) (
 Q (0, Sl.nil, 0) h3
 ) (
 Lift.load Value.pointer t0u1 h3 fun v_2 =>
 aX v_2 fun a =>
 Lift.load Sl.toV (a.add 1) h3 fun v_3 =>
 idxS v_3 v_1.1 4 fun a_1 =>
 Lift.load Sl.toV (a_1.add 3) h3 fun v_4 =>
 aD v_4 t0u1 upper h3 fun v_5 h4 =>
 iteB (decide (v_5 < 0)) (
 Lift.load Value.pointer t0u1 h4 fun v_6 =>
 Lift.load Value.bool upper h4 fun v_7 =>
 fz v_6 v_1.1 v_7 h4 fun v_8 h5 =>
 Q (2, v_8, 0) h5
 ) (
 idxS v_4 v_5 4 fun a_2 =>
 aC aj 4 a_2 h4 fun v_9 =>
 Lift.load Value.pointer t0u1 h4 fun v_10 =>
 aX v_10 fun a_3 =>
 Lift.load Sl.toV (a_3.add 0) h4 fun v_11 =>
 idxS v_11 v_1.1 1 fun a_4 =>
 Lift.load (Value.int .i64) a_4 h4 fun v_12 =>
 mem h4 fun h6 =>
 seq (fun (K0 : (Bool × Sl × Sl × Bool × Sl × Sl) → Heap → Prop) =>
 Lift.load Value.pointer t0u1 h6 fun v_13 =>
 Lift.load Value.bool upper h6 fun v_14 =>
 Lift.load Value.pointer t0u1 h6 fun v_15 =>
 aX v_15 fun a_5 =>
 Lift.load Sl.toV (a_5.add 2) h6 fun v_16 =>
 idxS v_16 v_12 6 fun a_6 =>
 aC ae 6 a_6 h6 fun v_17 =>
 mem h6 fun h8 =>
 cR v_13 v_14 h8 fun v_22 h15 =>
 (cell? h15 t0u1 = some (Value.pointer v_15)) ∧
 (cell? h15 (a_5.add 2) = some (Sl.toV v_16)) ∧
 (cells? h15 a_6 6 0 = some [Value.bool v_17.1, Sl.toV v_17.2.1, Sl.toV v_17.2.2.1, Value.bool v_17.2.2.2.1, Sl.toV v_17.2.2.2.2.1, Sl.toV v_17.2.2.2.2.2]) ∧
 idxS v_22.1 v_12 7 fun a_8 =>
 aC ae 6 (a_8.add 1) h15 fun v_23 =>
 mem h15 fun h16 =>
 lR b v_23 v_17 h16 fun v_24 h17 =>
 mem h17 fun h18 =>
 K0 v_24 h18
 ) (fun t0u2 h7 =>
 seq (fun (K0u1 : (Bool × Sl × Sl × Bool × Sl × Sl) → Heap → Prop) =>
 mem h7 fun h20 =>
 dm 1 h20 fun v_31 h33 =>
 mem h33 fun h34 =>
 lH b v_31 (v_9.2.1, v_9.2.2.1, v_9.2.2.2) h34 fun v_32 h35 =>
 mem h35 fun h36 =>
 fo b v_32 t0u2 h36 fun v_33 h37 =>
 mem h37 fun h38 =>
 K0u1 v_33 h38
 ) (fun t0u3 h19 =>
 Lift.load Value.pointer t0u1 h19 fun v_34 =>
 Lift.load Value.pointer t0u1 h19 fun v_35 =>
 aX v_35 fun a_9 =>
 Lift.load Sl.toV (a_9.add 2) h19 fun v_36 =>
 idxS v_36 v_9.1 6 fun a_10 =>
 aC ae 6 a_10 h19 fun v_37 =>
 iF b v_37 t0u3 h19 fun v_38 h39 =>
 (cell? h39 t0u1 = some (Value.pointer v_34)) ∧
 dX b v_34 v_9.1 v_38 h39 fun v_39 h40 =>
 Lift.load Value.pointer t0u1 h40 fun v_40 =>
 gU b v_40 v_1.1 v_9.1 h40 fun v_41 h41 =>
 aW b h41 fun v_42 h42 =>
 iteB v_42 (
 Q (0, Sl.nil, 6) h42
 ) (
 Q (1, Sl.nil, 0) h42
 )
 )
 )
 )
 )
def l7 (b : (Option Addr)) (t0 : (Option Addr)) (h : Heap) (Q : (Sl × Int) → Heap → Prop) : Prop :=
 loop (fun (s0 : Unit) h0 (K0 : Unit → Heap → Prop) =>
 fR b t0 h0 fun v h1 =>
 iteB (v.1 != 1) (
 Q (v.2.1, v.2.2) h1
 ) (
 K0 () h1
 )
 ) () h
def dZ (h : Heap) (Q : Bool → Heap → Prop) : Prop :=
 dm 1 h fun v h0 =>
 mem h0 fun h1 =>
 new [Value.int .i64 0, Value.bool v.1, Sl.toV v.2.1, Sl.toV v.2.2, Value.int .i64 1, Value.bool v.1, Sl.toV v.2.1, Sl.toV v.2.2] h1 fun a h2 =>
 new [Value.bool false, Sl.toV Sl.nil, Sl.toV Sl.nil, Sl.toV (⟨some a, 2, 2⟩ : Sl)] h2 fun a_1 h3 =>
 fD (0, 2, (⟨some a_1, 1, 1⟩ : Sl), Sl.nil, Sl.nil, Sl.nil, Sl.nil) h3 fun v_3 h4 =>
 new [Sl.toV Sl.nil, Sl.toV Sl.nil, Sl.toV Sl.nil, Sl.toV Sl.nil, Sl.toV Sl.nil] h4 fun t0 h5 =>
 da t0 [Sl.toV v_3.1, Sl.toV v_3.2.1, Sl.toV v_3.2.2.1, Sl.toV v_3.2.2.2.1, Sl.toV v_3.2.2.2.2] h5 fun h6 =>
 mf 4 h6 fun v_4 h7 =>
 lG 1 h7 fun v_5 h8 =>
 cU v_4 (some t0) 0 false (1, v_5.1, v_5.2.1, v_5.2.2.1, v_5.2.2.2.1, v_5.2.2.2.2.1, v_5.2.2.2.2.2) h8 fun v_6 h9 =>
 lG 1 h9 fun v_7 h10 =>
 cU v_4 (some t0) 1 false (2, v_7.1, v_7.2.1, v_7.2.2.1, v_7.2.2.2.1, v_7.2.2.2.2.1, v_7.2.2.2.2.2) h10 fun v_8 h11 =>
 lG 1 h11 fun v_9 h12 =>
 cU v_4 (some t0) 2 true (3, v_9.1, v_9.2.1, v_9.2.2.1, v_9.2.2.2.1, v_9.2.2.2.2.1, v_9.2.2.2.2.2) h12 fun v_10 h13 =>
 l7 v_4 (some t0) h13 fun v_11 h14 =>
 seq (fun (K0 : Bool → Heap → Prop) =>
 iteB (v_11.2 == 0) (
 iteB ((v_11.1.len : Int) == 3) (
 idxS v_11.1 0 4 fun a_2 =>
 Lift.load (Value.int .i64) (a_2.add 0) h14 fun v_12 =>
 K0 (v_12 == 3) h14
 ) (
 K0 false h14
 )
 ) (
 K0 false h14
 )
 ) (fun t0u1 h15 =>
 Q t0u1 h15
 )
def dg (l : Sl) (h : Heap) (Q : Bool → Heap → Prop) : Prop :=
 loop (fun (s0 : Int) h0 (K0 : Int → Heap → Prop) =>
 iteB (decide (s0 < (l.len : Int))) (
 idxS l s0 3 fun a =>
 aC ar 3 a h0 fun v =>
 mem h0 fun h1 =>
 seq (fun (K0u1 : Bool → Heap → Prop) =>
 iteB (decide ((v.2.1.len : Int) > 6)) (
 K0u1 true h1
 ) (
 K0u1 (decide ((v.2.2.len : Int) > 6)) h1
 )
 ) (fun t0 h2 =>
 iteB t0 (
 Q true h2
 ) (
 K0 (IntKind.wrap .i64 (s0 + 1)) h2
 )
 )
 ) (
 Q false h0
 )
 ) 0 h
def db (x0 : Sl) (h : Heap) (Q : Sl → Heap → Prop) : Prop :=
 Let ((x0.len : Int) : Int) fun n =>
 loop (fun (s0 : Int) h0 (K0 : Int → Heap → Prop) =>
 seq (fun (K0u1 : Bool → Heap → Prop) =>
 iteB (decide (s0 > 0)) (
 idxS x0 (IntKind.wrap .i64 (s0 - 1)) 1 fun a =>
 Lift.load (Value.int .i64) a h0 fun v =>
 K0u1 (v == 0) h0
 ) (
 K0u1 false h0
 )
 ) (fun t0 h1 =>
 iteB t0 (
 Let (IntKind.wrap .i64 (s0 - 1) : Int) fun n_1 =>
 K0 n_1 h1
 ) (
 sliceOf x0 none (some s0) none 1 fun v_1 =>
 Q v_1 h1
 )
 )
 ) n h
def kJ (x0 : Sl) (h : Heap) (Q : Sl → Heap → Prop) : Prop :=
 new [] h fun a h0 =>
 Let ((⟨some a, 0, 0⟩ : Sl) : Sl) fun out =>
 Let (IntKind.wrap .i64 ((x0.len : Int) - 1) : Int) fun i =>
 loop (fun (s0 : Sl × Int) h1 (K0 : (Sl × Int) → Heap → Prop) =>
 iteB (decide (s0.2 ≥ 0)) (
 idxS x0 s0.2 1 fun a_1 =>
 Lift.load (Value.int .u32) a_1 h1 fun v_1 =>
 Let (IntKind.wrap .i64 v_1 : Int) fun carry =>
 loop (fun (s0u1 : Int × Int) h2 (K0u1 : (Int × Int) → Heap → Prop) =>
 iteB (decide (s0u1.2 < (s0.1.len : Int))) (
 idxS s0.1 s0u1.2 1 fun a_2 =>
 Lift.load (Value.int .i64) a_2 h2 fun v_2 =>
 Let (IntKind.wrap .i64 ((IntKind.wrap .i64 (v_2 * 4294967296)) + s0u1.1) : Int) fun n =>
 idxS s0.1 s0u1.2 1 fun a_3 =>
 Lift.agT a_3 (Value.int .i64 (Int.tmod n 10)) h2 fun h3 =>
 Let (IntKind.wrap .i64 (Int.tdiv n 10) : Int) fun carry_1 =>
 Let (IntKind.wrap .i64 (s0u1.2 + 1) : Int) fun k =>
 K0u1 (carry_1, k) h3
 ) (
 loop (fun (s0u2 : Sl × Int) h4 (K0u2 : (Sl × Int) → Heap → Prop) =>
 iteB (decide (s0u2.2 > 0)) (
 new [Value.int .i64 (Int.tmod s0u2.2 10)] h4 fun a_4 h5 =>
 aG 1 8 s0u2.1 (⟨some a_4, 1, 1⟩ : Sl) h5 fun v_4 h6 =>
 Let (IntKind.wrap .i64 (Int.tdiv s0u2.2 10) : Int) fun carry_2 =>
 K0u2 (v_4, carry_2) h6
 ) (
 Let (IntKind.wrap .i64 (s0.2 - 1) : Int) fun i_1 =>
 K0 (s0u2.1, i_1) h4
 )
 ) (s0.1, s0u1.1) h2
 )
 ) (carry, 0) h1
 ) (
 db s0.1 h1 fun v_5 h7 =>
 Q v_5 h7
 )
 ) (out, i) h0
def dC (x0 : Bool × Sl × Sl) (h : Heap) (Q : (Bool × Sl × Sl) → Heap → Prop) : Prop :=
 mem h fun h0 =>
 seq (fun (K0 : (Bool × Sl × Sl) → Heap → Prop) =>
 mem h0 fun h2 =>
 kJ x0.2.1 h2 fun v_3 h9 =>
 mem h9 fun h10 =>
 kJ x0.2.2 h10 fun v_4 h11 =>
 mem h11 fun h12 =>
 K0 (x0.1, v_3, v_4) h12
 ) (fun t0 h1 =>
 seq (fun (K0u1 : (Bool × Sl × Sl) → Heap → Prop) =>
 iteB ((t0.2.2.len : Int) == 0) (
 new [Value.int .i64 1] h1 fun a h14 =>
 K0u1 (t0.1, t0.2.1, (⟨some a, 1, 1⟩ : Sl)) h14
 ) (
 K0u1 t0 h1
 )
 ) (fun t0u1 h13 =>
 Q t0u1 h13
 )
 )
def du (n : Int) (h : Heap) (Q : (Bool × Sl × Sl) → Heap → Prop) : Prop :=
 mem h fun h0 =>
 new [] h0 fun a h1 =>
 new [Value.int .i64 1] h1 fun a_1 h2 =>
 mem h2 fun h3 =>
 seq (fun (K0 : Int → Heap → Prop) =>
 iteB (decide (n < 0)) (
 Let (IntKind.wrap .i64 (0 - n) : Int) fun n_1 =>
 K0 n_1 h3
 ) (
 K0 n h3
 )
 ) (fun t0 h4 =>
 loop (fun (s0 : Int × Bool × Sl × Sl) h5 (K0u1 : (Int × Bool × Sl × Sl) → Heap → Prop) =>
 iteB (decide (s0.1 > 0)) (
 new [Value.int .i64 (Int.tmod s0.1 10)] h5 fun a_2 h6 =>
 aG 1 8 s0.2.2.1 (⟨some a_2, 1, 1⟩ : Sl) h6 fun v_3 h7 =>
 Let (IntKind.wrap .i64 (Int.tdiv s0.1 10) : Int) fun n_2 =>
 K0u1 (n_2, s0.2.1, v_3, s0.2.2.2) h7
 ) (
 Q (s0.2.1, s0.2.2.1, s0.2.2.2) h5
 )
 ) (t0, decide (n < 0), (⟨some a, 0, 0⟩ : Sl), (⟨some a_1, 1, 1⟩ : Sl)) h4
 )
def gH (x0 : Sl) (y : Sl) (h : Heap) (Q : Int → Heap → Prop) : Prop :=
 iteB ((x0.len : Int) != (y.len : Int)) (
 iteB (decide ((x0.len : Int) < (y.len : Int))) (
 Q (-1) h
 ) (
 Q 1 h
 )
 ) (
 Let (IntKind.wrap .i64 ((x0.len : Int) - 1) : Int) fun i =>
 loop (fun (s0 : Int) h0 (K0 : Int → Heap → Prop) =>
 iteB (decide (s0 ≥ 0)) (
 idxS x0 s0 1 fun a =>
 Lift.load (Value.int .i64) a h0 fun v =>
 idxS y s0 1 fun a_1 =>
 Lift.load (Value.int .i64) a_1 h0 fun v_1 =>
 iteB (decide (v < v_1)) (
 Q (-1) h0
 ) (
 idxS x0 s0 1 fun a_2 =>
 Lift.load (Value.int .i64) a_2 h0 fun v_2 =>
 idxS y s0 1 fun a_3 =>
 Lift.load (Value.int .i64) a_3 h0 fun v_3 =>
 iteB (decide (v_2 > v_3)) (
 Q 1 h0
 ) (
 Let (IntKind.wrap .i64 (s0 - 1) : Int) fun i_1 =>
 K0 i_1 h0
 )
 )
 ) (
 Q 0 h0
 )
 ) i h
 )
def gv (x0 : Sl) (y : Sl) (h : Heap) (Q : Sl → Heap → Prop) : Prop :=
 gH x0 y h fun v h0 =>
 iteB (decide (v < 0)) (
 new [] h0 fun a h1 =>
 Q (⟨some a, 0, 0⟩ : Sl) h1
 ) (
 new [] h0 fun a_1 h2 =>
 Let ((⟨some a_1, 0, 0⟩ : Sl) : Sl) fun out =>
 loop (fun (s0 : Sl × Int × Int) h3 (K0 : (Sl × Int × Int) → Heap → Prop) =>
 iteB (decide (s0.2.2 < (x0.len : Int))) (
 idxS x0 s0.2.2 1 fun a_2 =>
 Lift.load (Value.int .i64) a_2 h3 fun v_3 =>
 Let (IntKind.wrap .i64 (v_3 - s0.2.1) : Int) fun n =>
 seq (fun (K0u1 : Int → Heap → Prop) =>
 iteB (decide (s0.2.2 < (y.len : Int))) (
 idxS y s0.2.2 1 fun a_3 =>
 Lift.load (Value.int .i64) a_3 h3 fun v_4 =>
 Let (IntKind.wrap .i64 (n - v_4) : Int) fun n_1 =>
 K0u1 n_1 h3
 ) (
 K0u1 n h3
 )
 ) (fun t0 h4 =>
 seq (fun (K0u2 : (Int × Int) → Heap → Prop) =>
 iteB (decide (t0 < 0)) (
 Let (IntKind.wrap .i64 (t0 + 10) : Int) fun n_2 =>
 K0u2 (1, n_2) h4
 ) (
 K0u2 (0, t0) h4
 )
 ) (fun t0u1 h5 =>
 new [Value.int .i64 t0u1.2] h5 fun a_4 h6 =>
 aG 1 8 s0.1 (⟨some a_4, 1, 1⟩ : Sl) h6 fun v_6 h7 =>
 Let (IntKind.wrap .i64 (s0.2.2 + 1) : Int) fun i =>
 K0 (v_6, t0u1.1, i) h7
 )
 )
 ) (
 db s0.1 h3 fun v_7 h8 =>
 Q v_7 h8
 )
 ) (out, 0, 0) h2
 )
def gF (x0 : Sl) (y : Sl) (h : Heap) (Q : (Sl × Sl) → Heap → Prop) : Prop :=
 iteB ((y.len : Int) == 0) (
 new [] h fun a h0 =>
 new [] h0 fun a_1 h1 =>
 Q ((⟨some a, 0, 0⟩ : Sl), (⟨some a_1, 0, 0⟩ : Sl)) h1
 ) (
 Let ((x0.len : Int) : Int) fun t15 =>
 mkS [Value.int .i64 0] 8 t15 t15 h fun v_2 h2 =>
 new [] h2 fun a_2 h3 =>
 Let ((⟨some a_2, 0, 0⟩ : Sl) : Sl) fun r =>
 Let (IntKind.wrap .i64 ((x0.len : Int) - 1) : Int) fun i =>
 loop (fun (s0 : Sl × Int) h4 (K0 : (Sl × Int) → Heap → Prop) =>
 iteB (decide (s0.2 ≥ 0)) (
 idxS x0 s0.2 1 fun a_3 =>
 Lift.load (Value.int .i64) a_3 h4 fun v_4 =>
 new [Value.int .i64 v_4] h4 fun a_4 h5 =>
 aG 1 8 (⟨some a_4, 1, 1⟩ : Sl) s0.1 h5 fun v_6 h6 =>
 db v_6 h6 fun v_7 h7 =>
 loop (fun (s0u1 : Sl) h8 (K0u1 : Sl → Heap → Prop) =>
 gH s0u1 y h8 fun v_8 h9 =>
 iteB (decide (v_8 ≥ 0)) (
 gv s0u1 y h9 fun v_9 h10 =>
 idxS v_2 s0.2 1 fun a_5 =>
 Lift.load (Value.int .i64) a_5 h10 fun v_10 =>
 idxS v_2 s0.2 1 fun a_6 =>
 Lift.agT a_6 (Value.int .i64 (IntKind.wrap .i64 (v_10 + 1))) h10 fun h11 =>
 K0u1 v_9 h11
 ) (
 Let (IntKind.wrap .i64 (s0.2 - 1) : Int) fun i_1 =>
 K0 (s0u1, i_1) h9
 )
 ) v_7 h7
 ) (
 db v_2 h4 fun v_11 h12 =>
 Q (v_11, s0.1) h12
 )
 ) (r, i) h3
 )
def lI (x0 : Sl) (y : Sl) (h : Heap) (Q : Sl → Heap → Prop) : Prop :=
 loop (fun (s0 : Sl × Sl) h0 (K0 : (Sl × Sl) → Heap → Prop) =>
 iteB (decide ((s0.2.len : Int) > 0)) (
 gF s0.1 s0.2 h0 fun v h1 =>
 K0 (s0.2, v.2) h1
 ) (
 Q s0.1 h0
 )
 ) (x0, y) h
def dE (r : Bool × Sl × Sl) (h : Heap) (Q : (Bool × Sl × Sl) → Heap → Prop) : Prop :=
 mem h fun h0 =>
 iteB ((r.2.1.len : Int) == 0) (
 du 0 h0 fun v h1 =>
 Q v h1
 ) (
 lI r.2.1 r.2.2 h0 fun v_1 h2 =>
 gF r.2.1 v_1 h2 fun v_2 h3 =>
 gF r.2.2 v_1 h3 fun v_3 h4 =>
 Q (r.1, v_2.1, v_3.1) h4
 )
def cO (x0 : Sl) (h : Heap) (Q : Sl → Heap → Prop) : Prop :=
 new [] h fun a h0 =>
 Let ((⟨some a, 0, 0⟩ : Sl) : Sl) fun out =>
 Let (IntKind.wrap .i64 ((x0.len : Int) - 1) : Int) fun i =>
 loop (fun (s0 : Sl × Int) h1 (K0 : (Sl × Int) → Heap → Prop) =>
 iteB (decide (s0.2 ≥ 0)) (
 seq (fun (K0u1 : Sl → Heap → Prop) =>
 idxS x0 s0.2 1 fun a_1 =>
 Lift.load (Value.int .i64) a_1 h1 fun v_1 =>
 Let (IntKind.wrap .u64 v_1 : Int) fun carry =>
 loop (fun (s0u1 : Int × Int) h3 (K0u2 : (Int × Int) → Heap → Prop) =>
 iteB (decide (s0u1.2 < (s0.1.len : Int))) (
 idxS s0.1 s0u1.2 1 fun a_2 =>
 Lift.load (Value.int .u32) a_2 h3 fun v_2 =>
 Let (IntKind.wrap .u64 ((IntKind.wrap .u64 ((IntKind.wrap .u64 v_2) * 10)) + s0u1.1) : Int) fun n =>
 idxS s0.1 s0u1.2 1 fun a_3 =>
 Lift.agT a_3 (Value.int .u32 (IntKind.wrap .u32 (Int.tmod n 4294967296))) h3 fun h4 =>
 Let (IntKind.wrap .u64 (Int.tdiv n 4294967296) : Int) fun carry_1 =>
 Let (IntKind.wrap .i64 (s0u1.2 + 1) : Int) fun k =>
 K0u2 (carry_1, k) h4
 ) (
 iteB (decide (s0u1.1 > 0)) (
 new [Value.int .u32 (IntKind.wrap .u32 s0u1.1)] h3 fun a_4 h5 =>
 aG 1 4 s0.1 (⟨some a_4, 1, 1⟩ : Sl) h5 fun v_4 h6 =>
 K0u1 v_4 h6
 ) (
 K0u1 s0.1 h3
 )
 )
 ) (carry, 0) h1
 ) (fun t0 h2 =>
 Let (IntKind.wrap .i64 (s0.2 - 1) : Int) fun i_1 =>
 K0 (t0, i_1) h2
 )
 ) (
 Q s0.1 h1
 )
 ) (out, i) h0
def bq (r : Bool × Sl × Sl) (h : Heap) (Q : (Bool × Sl × Sl) → Heap → Prop) : Prop :=
 mem h fun h0 =>
 dE r h0 fun v h1 =>
 seq (fun (K0 : (Bool × Sl × Sl) → Heap → Prop) =>
 mem h1 fun h3 =>
 cO v.2.1 h3 fun v_2 h6 =>
 mem h6 fun h7 =>
 K0 (v.1, v_2, Sl.nil) h7
 ) (fun t0 h2 =>
 seq (fun (K0u1 : (Bool × Sl × Sl) → Heap → Prop) =>
 seq (fun (K0u2 : Bool → Heap → Prop) =>
 iteB ((v.2.2.len : Int) != 1) (
 K0u2 true h2
 ) (
 idxS v.2.2 0 1 fun a =>
 Lift.load (Value.int .i64) a h2 fun v_3 =>
 K0u2 (v_3 != 1) h2
 )
 ) (fun t0u2 h9 =>
 iteB t0u2 (
 cO v.2.2 h9 fun v_4 h10 =>
 K0u1 (t0.1, t0.2.1, v_4) h10
 ) (
 K0u1 t0 h9
 )
 )
 ) (fun t0u1 h8 =>
 Q t0u1 h8
 )
 )
def eY (a : Sl) (b : Sl) (h : Heap) (Q : Bool → Heap → Prop) : Prop :=
 iteB ((a.len : Int) != (b.len : Int)) (
 Q false h
 ) (
 loop (fun (s0 : Int) h0 (K0 : Int → Heap → Prop) =>
 iteB (decide (s0 < (a.len : Int))) (
 idxS a s0 1 fun a_1 =>
 Lift.load (Value.int .u32) a_1 h0 fun v =>
 idxS b s0 1 fun a_2 =>
 Lift.load (Value.int .u32) a_2 h0 fun v_1 =>
 iteB (v != v_1) (
 Q false h0
 ) (
 Let (IntKind.wrap .i64 (s0 + 1) : Int) fun i =>
 K0 i h0
 )
 ) (
 Q true h0
 )
 ) 0 h
 )
def cW (x0 : Bool × Sl × Sl) (y : Bool × Sl × Sl) (h : Heap) (Q : Bool → Heap → Prop) : Prop :=
 mem h fun h0 =>
 seq (fun (K0 : Bool → Heap → Prop) =>
 iteB (x0.1 == y.1) (
 eY x0.2.1 y.2.1 h0 fun v h2 =>
 iteB v (
 eY x0.2.2 y.2.2 h2 fun v_1 h3 =>
 K0 v_1 h3
 ) (
 K0 false h2
 )
 ) (
 K0 false h0
 )
 ) (fun t0 h1 =>
 Q t0 h1
 )
def cA (x0 : Bool × Sl × Sl) (h : Heap) (Q : Bool → Heap → Prop) : Prop :=
 mem h fun h0 =>
 seq (fun (K0 : Bool → Heap → Prop) =>
 iteB (decide ((x0.2.1.len : Int) > 0)) (
 idxS x0.2.1 (IntKind.wrap .i64 ((x0.2.1.len : Int) - 1)) 1 fun a =>
 Lift.load (Value.int .u32) a h0 fun v =>
 iteB (v == 0) (
 K0 true h0
 ) (
 iteB (decide ((x0.2.2.len : Int) > 0)) (
 idxS x0.2.2 (IntKind.wrap .i64 ((x0.2.2.len : Int) - 1)) 1 fun a_1 =>
 Lift.load (Value.int .u32) a_1 h0 fun v_1 =>
 iteB (v_1 == 0) (
 K0 true h0
 ) (
 iteB ((x0.2.1.len : Int) == 0) (
 K0 x0.1 h0
 ) (
 K0 false h0
 )
 )
 ) (
 iteB ((x0.2.1.len : Int) == 0) (
 K0 x0.1 h0
 ) (
 K0 false h0
 )
 )
 )
 ) (
 iteB (decide ((x0.2.2.len : Int) > 0)) (
 idxS x0.2.2 (IntKind.wrap .i64 ((x0.2.2.len : Int) - 1)) 1 fun a_2 =>
 Lift.load (Value.int .u32) a_2 h0 fun v_2 =>
 iteB (v_2 == 0) (
 K0 true h0
 ) (
 iteB ((x0.2.1.len : Int) == 0) (
 K0 x0.1 h0
 ) (
 K0 false h0
 )
 )
 ) (
 iteB ((x0.2.1.len : Int) == 0) (
 K0 x0.1 h0
 ) (
 K0 false h0
 )
 )
 )
 ) (fun t0 h1 =>
 iteB t0 (
 Q false h1
 ) (
 dC x0 h1 fun v_3 h2 =>
 bq v_3 h2 fun v_4 h3 =>
 cW x0 v_4 h3 fun v_5 h4 =>
 Q v_5 h4
 )
 )
def jX (p : Bool × Sl × Sl × Sl) (h : Heap) (Q : Bool → Heap → Prop) : Prop :=
 mem h fun h0 =>
 cA (p.1, p.2.1, p.2.2.1) h0 fun v h1 =>
 iteB (!v) (
 Q false h1
 ) (
 loop (fun (s0 : Int) h2 (K0 : Int → Heap → Prop) =>
 iteB (decide (s0 < (p.2.2.2.len : Int))) (
 idxS p.2.2.2 s0 4 fun a =>
 aC aj 4 a h2 fun v_1 =>
 mem h2 fun h3 =>
 seq (fun (K0u1 : Bool → Heap → Prop) =>
 iteB (decide (v_1.1 < 0)) (
 K0u1 true h3
 ) (
 iteB (decide (s0 > 0)) (
 idxS p.2.2.2 (IntKind.wrap .i64 (s0 - 1)) 4 fun a_1 =>
 Lift.load (Value.int .i64) (a_1.add 0) h3 fun v_2 =>
 iteB (decide (v_1.1 ≤ v_2)) (
 K0u1 true h3
 ) (
 cA (v_1.2.1, v_1.2.2.1, v_1.2.2.2) h3 fun v_3 h5 =>
 iteB (!v_3) (
 K0u1 true h5
 ) (
 K0u1 ((v_1.2.2.1.len : Int) == 0) h5
 )
 )
 ) (
 cA (v_1.2.1, v_1.2.2.1, v_1.2.2.2) h3 fun v_4 h6 =>
 iteB (!v_4) (
 K0u1 true h6
 ) (
 K0u1 ((v_1.2.2.1.len : Int) == 0) h6
 )
 )
 )
 ) (fun t0 h4 =>
 iteB t0 (
 Q false h4
 ) (
 Let (IntKind.wrap .i64 (s0 + 1) : Int) fun i =>
 K0 i h4
 )
 )
 ) (
 Q true h2
 )
 ) 0 h1
 )
def oK (l : Sl) (h : Heap) (Q : Bool → Heap → Prop) : Prop :=
 loop (fun (s0 : Int) h0 (K0 : Int → Heap → Prop) =>
 iteB (decide (s0 < (l.len : Int))) (
 idxS l s0 4 fun a =>
 aC am 4 a h0 fun v =>
 mem h0 fun h1 =>
 seq (fun (K0u1 : Bool → Heap → Prop) =>
 iteB (decide ((v.2.2.2.len : Int) > 12)) (
 K0u1 true h1
 ) (
 new [Value.bool v.1, Sl.toV v.2.1, Sl.toV v.2.2.1] h1 fun a_1 h3 =>
 dg (⟨some a_1, 1, 1⟩ : Sl) h3 fun v_2 h4 =>
 iteB v_2 (
 K0u1 true h4
 ) (
 jX v h4 fun v_3 h5 =>
 K0u1 (!v_3) h5
 )
 )
 ) (fun t0 h2 =>
 iteB t0 (
 Q true h2
 ) (
 loop (fun (s0u1 : Int) h6 (K0u2 : Int → Heap → Prop) =>
 iteB (decide (s0u1 < (v.2.2.2.len : Int))) (
 idxS v.2.2.2 s0u1 4 fun a_2 =>
 aC aj 4 a_2 h6 fun v_4 =>
 mem h6 fun h7 =>
 new [Value.bool v_4.2.1, Sl.toV v_4.2.2.1, Sl.toV v_4.2.2.2] h7 fun a_3 h8 =>
 dg (⟨some a_3, 1, 1⟩ : Sl) h8 fun v_6 h9 =>
 iteB v_6 (
 Q true h9
 ) (
 K0u2 (IntKind.wrap .i64 (s0u1 + 1)) h9
 )
 ) (
 K0 (IntKind.wrap .i64 (s0 + 1)) h6
 )
 ) 0 h2
 )
 )
 ) (
 Q false h0
 )
 ) 0 h
def kg (rows : Sl) (n : Int) (h : Heap) (Q : Bool → Heap → Prop) : Prop :=
 seq (fun (K0 : Bool → Heap → Prop) =>
 iteB (decide ((rows.len : Int) > 6)) (
 K0 true h
 ) (
 iteB (decide (n > 20)) (
 K0 true h
 ) (
 oK rows h fun v h1 =>
 K0 v h1
 )
 )
 ) (fun t0 h0 =>
 Q t0 h0
 )
def oG (x0 : Bool × Sl × Sl × Bool × Sl × Sl) (h : Heap) (Q : Bool → Heap → Prop) : Prop :=
 mem h fun h0 =>
 seq (fun (K0 : Bool → Heap → Prop) =>
 cA (x0.1, x0.2.1, x0.2.2.1) h0 fun v h2 =>
 iteB v (
 cA (x0.2.2.2.1, x0.2.2.2.2.1, x0.2.2.2.2.2) h2 fun v_1 h3 =>
 K0 v_1 h3
 ) (
 K0 false h2
 )
 ) (fun t0 h1 =>
 Q t0 h1
 )
def kn (l : Sl) (h : Heap) (Q : Bool → Heap → Prop) : Prop :=
 loop (fun (s0 : Int) h0 (K0 : Int → Heap → Prop) =>
 iteB (decide (s0 < (l.len : Int))) (
 idxS l s0 6 fun a =>
 aC ae 6 a h0 fun v =>
 mem h0 fun h1 =>
 seq (fun (K0u1 : Bool → Heap → Prop) =>
 new [Value.bool v.1, Sl.toV v.2.1, Sl.toV v.2.2.1, Value.bool v.2.2.2.1, Sl.toV v.2.2.2.2.1, Sl.toV v.2.2.2.2.2] h1 fun a_1 h3 =>
 dg (⟨some a_1, 2, 2⟩ : Sl) h3 fun v_2 h4 =>
 iteB v_2 (
 K0u1 true h4
 ) (
 oG v h4 fun v_3 h5 =>
 K0u1 (!v_3) h5
 )
 ) (fun t0 h2 =>
 iteB t0 (
 Q true h2
 ) (
 K0 (IntKind.wrap .i64 (s0 + 1)) h2
 )
 )
 ) (
 Q false h0
 )
 ) 0 h
def ro (reals : Int) (rows : Sl) (acts : Sl) (h : Heap) (Q : Bool → Heap → Prop) : Prop :=
 seq (fun (K0 : Bool → Heap → Prop) =>
 iteB (decide (reals < 0)) (
 K0 true h
 ) (
 kg rows reals h fun v h1 =>
 iteB v (
 K0 true h1
 ) (
 K0 (decide ((acts.len : Int) > 24)) h1
 )
 )
 ) (fun t0 h0 =>
 iteB t0 (
 Q true h0
 ) (
 loop (fun (s0 : Int) h2 (K0u1 : Int → Heap → Prop) =>
 iteB (decide (s0 < (rows.len : Int))) (
 idxS rows s0 4 fun a =>
 aC am 4 a h2 fun v_1 =>
 mem h2 fun h3 =>
 seq (fun (K0u2 : Bool → Heap → Prop) =>
 iteB (decide ((v_1.2.2.2.len : Int) < 2)) (
 K0u2 true h3
 ) (
 iteB (decide ((v_1.2.1.len : Int) > 0)) (
 K0u2 true h3
 ) (
 idxS v_1.2.2.2 (IntKind.wrap .i64 ((v_1.2.2.2.len : Int) - 1)) 4 fun a_1 =>
 Lift.load (Value.int .i64) (a_1.add 0) h3 fun v_2 =>
 K0u2 (decide (v_2 ≥ reals)) h3
 )
 )
 ) (fun t0u1 h4 =>
 iteB t0u1 (
 Q true h4
 ) (
 loop (fun (s0u1 : Int) h5 (K0u3 : Int → Heap → Prop) =>
 iteB (decide (s0u1 < (v_1.2.2.2.len : Int))) (
 idxS v_1.2.2.2 s0u1 4 fun a_2 =>
 aC aj 4 a_2 h5 fun v_3 =>
 mem h5 fun h6 =>
 seq (fun (K0u4 : Bool → Heap → Prop) =>
 iteB (decide ((v_3.2.2.1.len : Int) > 1)) (
 K0u4 true h6
 ) (
 K0u4 (decide ((v_3.2.2.2.len : Int) > 1)) h6
 )
 ) (fun t0u2 h7 =>
 iteB t0u2 (
 Q true h7
 ) (
 K0u3 (IntKind.wrap .i64 (s0u1 + 1)) h7
 )
 )
 ) (
 K0u1 (IntKind.wrap .i64 (s0 + 1)) h5
 )
 ) 0 h4
 )
 )
 ) (
 loop (fun (s0u2 : Int) h8 (K0u5 : Int → Heap → Prop) =>
 iteB (decide (s0u2 < (acts.len : Int))) (
 idxS acts s0u2 10 fun a_3 =>
 aC aE 10 a_3 h8 fun v_4 =>
 mem h8 fun h9 =>
 seq (fun (K0u6 : Bool → Heap → Prop) =>
 new [Value.bool v_4.2.2.2.2.1, Sl.toV v_4.2.2.2.2.2.1, Sl.toV v_4.2.2.2.2.2.2.1, Value.bool v_4.2.2.2.2.2.2.2.1, Sl.toV v_4.2.2.2.2.2.2.2.2.1, Sl.toV v_4.2.2.2.2.2.2.2.2.2] h9 fun a_4 h11 =>
 kn (⟨some a_4, 1, 1⟩ : Sl) h11 fun v_6 h12 =>
 iteB v_6 (
 K0u6 true h12
 ) (
 iteB (decide ((v_4.2.2.2.2.2.1.len : Int) > 1)) (
 K0u6 true h12
 ) (
 iteB (decide ((v_4.2.2.2.2.2.2.1.len : Int) > 1)) (
 K0u6 true h12
 ) (
 iteB (decide ((v_4.2.2.2.2.2.2.2.2.1.len : Int) > 1)) (
 K0u6 true h12
 ) (
 K0u6 (decide ((v_4.2.2.2.2.2.2.2.2.2.len : Int) > 1)) h12
 )
 )
 )
 )
 ) (fun t0u3 h10 =>
 iteB t0u3 (
 Q true h10
 ) (
 K0u5 (IntKind.wrap .i64 (s0u2 + 1)) h10
 )
 )
 ) (
 Q false h8
 )
 ) 0 h2
 )
 ) 0 h0
 )
 )
def iN (p : Int × Int × Sl × Sl × Sl × Sl × Sl) (h : Heap) (Q : (Sl × Sl × Sl × Sl × Sl) → Heap → Prop) : Prop :=
 mem h fun h0 =>
 mem h0 fun h1 =>
 Let (IntKind.wrap .i64 (p.2.1 + (p.2.2.1.len : Int)) : Int) fun n =>
 loop (fun (s0 : Int × Sl × Sl × Sl × Sl × Sl) h2 (K0 : (Int × Sl × Sl × Sl × Sl × Sl) → Heap → Prop) =>
 iteB (decide (s0.1 < (p.2.2.1.len : Int))) (
 new [Value.int .i64 (IntKind.wrap .i64 (p.2.1 + s0.1))] h2 fun a h3 =>
 aG 1 8 s0.2.1 (⟨some a, 1, 1⟩ : Sl) h3 fun v_1 h4 =>
 Let (IntKind.wrap .i64 (s0.1 + 1) : Int) fun i =>
 K0 (i, v_1, s0.2.2.1, s0.2.2.2.1, s0.2.2.2.2.1, s0.2.2.2.2.2) h4
 ) (
 loop (fun (s0u1 : Int × Sl × Sl × Sl × Sl × Sl) h5 (K0u1 : (Int × Sl × Sl × Sl × Sl × Sl) → Heap → Prop) =>
 iteB (decide (s0u1.1 < n)) (
 new [Value.bool false, Sl.toV Sl.nil, Sl.toV Sl.nil, Value.bool false, Sl.toV Sl.nil, Sl.toV Sl.nil] h5 fun a_1 h6 =>
 aG 6 112 s0u1.2.2.2.1 (⟨some a_1, 1, 1⟩ : Sl) h6 fun v_3 h7 =>
 new [Value.int .i64 0, Value.bool false, Sl.toV Sl.nil, Sl.toV Sl.nil, Value.bool false, Sl.toV Sl.nil, Sl.toV Sl.nil] h7 fun a_2 h8 =>
 aG 7 120 s0u1.2.2.2.2.1 (⟨some a_2, 1, 1⟩ : Sl) h8 fun v_5 h9 =>
 new [Value.int .i64 0, Value.bool false, Sl.toV Sl.nil, Sl.toV Sl.nil, Value.bool false, Sl.toV Sl.nil, Sl.toV Sl.nil] h9 fun a_3 h10 =>
 aG 7 120 s0u1.2.2.2.2.2 (⟨some a_3, 1, 1⟩ : Sl) h10 fun v_7 h11 =>
 Let (IntKind.wrap .i64 (s0u1.1 + 1) : Int) fun i_1 =>
 K0u1 (i_1, s0u1.2.1, s0u1.2.2.1, v_3, v_5, v_7) h11
 ) (
 Q (s0u1.2.1, s0u1.2.2.1, s0u1.2.2.2.1, s0u1.2.2.2.2.1, s0u1.2.2.2.2.2) h5
 )
 ) (0, s0.2.1, s0.2.2.1, s0.2.2.2.1, s0.2.2.2.2.1, s0.2.2.2.2.2) h2
 )
 ) (0, Sl.nil, p.2.2.1, Sl.nil, Sl.nil, Sl.nil) h1
def eQ (x0 : Bool × Sl × Sl × Bool × Sl × Sl) (h : Heap) (Q : (Bool × Sl × Sl × Bool × Sl × Sl) → Heap → Prop) : Prop :=
 mem h fun h0 =>
 dC (x0.1, x0.2.1, x0.2.2.1) h0 fun v h1 =>
 dC (x0.2.2.2.1, x0.2.2.2.2.1, x0.2.2.2.2.2) h1 fun v_1 h2 =>
 Q (v.1, v.2.1, v.2.2, v_1.1, v_1.2.1, v_1.2.2) h2
def d9 (x0 : Bool × Sl × Sl) (h : Heap) (Q : (Bool × Sl × Sl) → Heap → Prop) : Prop :=
 mem h fun h0 =>
 seq (fun (K0 : (Bool × Sl × Sl) → Heap → Prop) =>
 iteB (!x0.1) (
 K0 (decide ((x0.2.1.len : Int) > 0), x0.2.1, x0.2.2) h0
 ) (
 K0 (false, x0.2.1, x0.2.2) h0
 )
 ) (fun t0 h1 =>
 Q t0 h1
 )
def c8 (x0 : Sl) (y : Sl) (h : Heap) (Q : Sl → Heap → Prop) : Prop :=
 Let (IntKind.wrap .i64 ((IntKind.wrap .i64 ((x0.len : Int) + (y.len : Int))) + 1) : Int) fun t15 =>
 mkS [Value.int .i64 0] 8 t15 t15 h fun v h0 =>
 loop (fun (s0 : Int) h1 (K0 : Int → Heap → Prop) =>
 iteB (decide (s0 < (x0.len : Int))) (
 loop (fun (s0u1 : Int × Int) h2 (K0u1 : (Int × Int) → Heap → Prop) =>
 seq (fun (K0u2 : Bool → Heap → Prop) =>
 iteB (decide (s0u1.2 < (y.len : Int))) (
 K0u2 true h2
 ) (
 K0u2 (decide (s0u1.1 > 0)) h2
 )
 ) (fun t0 h3 =>
 iteB t0 (
 idxS v (IntKind.wrap .i64 (s0 + s0u1.2)) 1 fun a =>
 Lift.load (Value.int .i64) a h3 fun v_1 =>
 Let (IntKind.wrap .i64 (v_1 + s0u1.1) : Int) fun n =>
 seq (fun (K0u3 : Int → Heap → Prop) =>
 iteB (decide (s0u1.2 < (y.len : Int))) (
 idxS x0 s0 1 fun a_1 =>
 Lift.load (Value.int .i64) a_1 h3 fun v_2 =>
 idxS y s0u1.2 1 fun a_2 =>
 Lift.load (Value.int .i64) a_2 h3 fun v_3 =>
 Let (IntKind.wrap .i64 (n + (IntKind.wrap .i64 (v_2 * v_3))) : Int) fun n_1 =>
 K0u3 n_1 h3
 ) (
 K0u3 n h3
 )
 ) (fun t0u1 h4 =>
 idxS v (IntKind.wrap .i64 (s0 + s0u1.2)) 1 fun a_3 =>
 Lift.agT a_3 (Value.int .i64 (Int.tmod t0u1 10)) h4 fun h5 =>
 Let (IntKind.wrap .i64 (Int.tdiv t0u1 10) : Int) fun carry =>
 Let (IntKind.wrap .i64 (s0u1.2 + 1) : Int) fun k =>
 K0u1 (carry, k) h5
 )
 ) (
 Let (IntKind.wrap .i64 (s0 + 1) : Int) fun i =>
 K0 i h3
 )
 )
 ) (0, 0) h1
 ) (
 db v h1 fun v_4 h6 =>
 Q v_4 h6
 )
 ) 0 h0
def kG (x0 : Sl) (y : Sl) (h : Heap) (Q : Sl → Heap → Prop) : Prop :=
 new [] h fun a h0 =>
 Let ((⟨some a, 0, 0⟩ : Sl) : Sl) fun out =>
 loop (fun (s0 : Sl × Int × Int) h1 (K0 : (Sl × Int × Int) → Heap → Prop) =>
 seq (fun (K0u1 : Bool → Heap → Prop) =>
 iteB (decide (s0.2.2 < (x0.len : Int))) (
 K0u1 true h1
 ) (
 iteB (decide (s0.2.2 < (y.len : Int))) (
 K0u1 true h1
 ) (
 K0u1 (decide (s0.2.1 > 0)) h1
 )
 )
 ) (fun t0 h2 =>
 iteB t0 (
 seq (fun (K0u2 : Int → Heap → Prop) =>
 iteB (decide (s0.2.2 < (x0.len : Int))) (
 idxS x0 s0.2.2 1 fun a_1 =>
 Lift.load (Value.int .i64) a_1 h2 fun v_1 =>
 Let (IntKind.wrap .i64 (s0.2.1 + v_1) : Int) fun n =>
 K0u2 n h2
 ) (
 K0u2 s0.2.1 h2
 )
 ) (fun t0u1 h3 =>
 seq (fun (K0u3 : Int → Heap → Prop) =>
 iteB (decide (s0.2.2 < (y.len : Int))) (
 idxS y s0.2.2 1 fun a_2 =>
 Lift.load (Value.int .i64) a_2 h3 fun v_2 =>
 Let (IntKind.wrap .i64 (t0u1 + v_2) : Int) fun n_1 =>
 K0u3 n_1 h3
 ) (
 K0u3 t0u1 h3
 )
 ) (fun t0u2 h4 =>
 new [Value.int .i64 (Int.tmod t0u2 10)] h4 fun a_3 h5 =>
 aG 1 8 s0.1 (⟨some a_3, 1, 1⟩ : Sl) h5 fun v_4 h6 =>
 Let (IntKind.wrap .i64 (Int.tdiv t0u2 10) : Int) fun carry =>
 Let (IntKind.wrap .i64 (s0.2.2 + 1) : Int) fun i =>
 K0 (v_4, carry, i) h6
 )
 )
 ) (
 db s0.1 h2 fun v_5 h7 =>
 Q v_5 h7
 )
 )
 ) (out, 0, 0) h0
def fh (x0 : Bool × Sl × Sl) (y : Bool × Sl × Sl) (h : Heap) (Q : (Bool × Sl × Sl) → Heap → Prop) : Prop :=
 mem h fun h0 =>
 c8 x0.2.1 y.2.2 h0 fun v h1 =>
 c8 y.2.1 x0.2.2 h1 fun v_1 h2 =>
 c8 x0.2.2 y.2.2 h2 fun v_2 h3 =>
 iteB (x0.1 == y.1) (
 kG v v_1 h3 fun v_3 h4 =>
 dE (x0.1, v_3, v_2) h4 fun v_4 h5 =>
 Q v_4 h5
 ) (
 gH v v_1 h3 fun v_5 h6 =>
 iteB (decide (v_5 ≥ 0)) (
 gv v v_1 h6 fun v_6 h7 =>
 dE (x0.1, v_6, v_2) h7 fun v_7 h8 =>
 Q v_7 h8
 ) (
 gv v_1 v h6 fun v_8 h9 =>
 dE (y.1, v_8, v_2) h9 fun v_9 h10 =>
 Q v_9 h10
 )
 )
def kU (x0 : Bool × Sl × Sl) (y : Bool × Sl × Sl) (h : Heap) (Q : Int → Heap → Prop) : Prop :=
 mem h fun h0 =>
 seq (fun (K0 : (Bool × Sl × Sl) → Heap → Prop) =>
 mem h0 fun h2 =>
 d9 y h2 fun v_3 h9 =>
 mem h9 fun h10 =>
 fh x0 v_3 h10 fun v_4 h11 =>
 mem h11 fun h12 =>
 K0 v_4 h12
 ) (fun t0 h1 =>
 iteB ((t0.2.1.len : Int) == 0) (
 Q 0 h1
 ) (
 iteB t0.1 (
 Q (-1) h1
 ) (
 Q 1 h1
 )
 )
 )
def pA (x0 : Bool × Sl × Sl × Bool × Sl × Sl) (y : Bool × Sl × Sl × Bool × Sl × Sl) (h : Heap) (Q : Int → Heap → Prop) : Prop :=
 mem h fun h0 =>
 kU (x0.1, x0.2.1, x0.2.2.1) (y.1, y.2.1, y.2.2.1) h0 fun v h1 =>
 seq (fun (K0 : Int → Heap → Prop) =>
 iteB (v == 0) (
 kU (x0.2.2.2.1, x0.2.2.2.2.1, x0.2.2.2.2.2) (y.2.2.2.1, y.2.2.2.2.1, y.2.2.2.2.2) h1 fun v_1 h3 =>
 K0 v_1 h3
 ) (
 K0 v h1
 )
 ) (fun t0 h2 =>
 Q t0 h2
 )
def bZ (x0 : Bool × Sl × Sl × Bool × Sl × Sl) (y : Bool × Sl × Sl × Bool × Sl × Sl) (h : Heap) (Q : Int → Heap → Prop) : Prop :=
 mem h fun h0 =>
 eQ x0 h0 fun v h1 =>
 eQ y h1 fun v_1 h2 =>
 pA v v_1 h2 fun v_2 h3 =>
 Q v_2 h3
def fC (h : Heap) (Q : (Bool × Sl × Sl) → Heap → Prop) : Prop :=
 mem h fun h0 =>
 du 1 h0 fun v h1 =>
 bq v h1 fun v_1 h2 =>
 Q v_1 h2
def gr (t0 : Sl × Sl × Sl × Sl × Sl) (v : Int) (h : Heap) (Q : Int → Heap → Prop) : Prop :=
 mem h fun h0 =>
 loop (fun (s0 : Int) h1 (K0 : Int → Heap → Prop) =>
 iteB (decide (s0 < (t0.1.len : Int))) (
 idxS t0.1 s0 1 fun a =>
 Lift.load (Value.int .i64) a h1 fun v_1 =>
 iteB (v_1 == v) (
 Q s0 h1
 ) (
 Let (IntKind.wrap .i64 (s0 + 1) : Int) fun i =>
 K0 i h1
 )
 ) (
 Q (-1) h1
 )
 ) 0 h0
def gm (x0 : Bool × Sl × Sl) (y : Bool × Sl × Sl) (h : Heap) (Q : (Bool × Sl × Sl) → Heap → Prop) : Prop :=
 mem h fun h0 =>
 c8 x0.2.1 y.2.1 h0 fun v h1 =>
 c8 x0.2.2 y.2.2 h1 fun v_1 h2 =>
 dE ((!(x0.1 == y.1)), v, v_1) h2 fun v_2 h3 =>
 Q v_2 h3
def gP (k : Bool × Sl × Sl) (x0 : Bool × Sl × Sl × Bool × Sl × Sl) (h : Heap) (Q : (Bool × Sl × Sl × Bool × Sl × Sl) → Heap → Prop) : Prop :=
 mem h fun h0 =>
 gm k (x0.1, x0.2.1, x0.2.2.1) h0 fun v h1 =>
 gm k (x0.2.2.2.1, x0.2.2.2.2.1, x0.2.2.2.2.2) h1 fun v_1 h2 =>
 Q (v.1, v.2.1, v.2.2, v_1.1, v_1.2.1, v_1.2.2) h2
def iI (x0 : Bool × Sl × Sl × Bool × Sl × Sl) (y : Bool × Sl × Sl × Bool × Sl × Sl) (h : Heap) (Q : (Bool × Sl × Sl × Bool × Sl × Sl) → Heap → Prop) : Prop :=
 mem h fun h0 =>
 fh (x0.1, x0.2.1, x0.2.2.1) (y.1, y.2.1, y.2.2.1) h0 fun v h1 =>
 fh (x0.2.2.2.1, x0.2.2.2.2.1, x0.2.2.2.2.2) (y.2.2.2.1, y.2.2.2.2.1, y.2.2.2.2.2) h1 fun v_1 h2 =>
 Q (v.1, v.2.1, v.2.2, v_1.1, v_1.2.1, v_1.2.2) h2
def jR (p : Bool × Sl × Sl × Sl) (l : Sl) (h : Heap) (Q : (Bool × Sl × Sl × Bool × Sl × Sl) → Heap → Prop) : Prop :=
 mem h fun h0 =>
 eQ (false, Sl.nil, Sl.nil, false, Sl.nil, Sl.nil) h0 fun v h1 =>
 mem h1 fun h2 =>
 loop (fun (s0 : Int × Bool × Sl × Sl × Bool × Sl × Sl) h3 (K0 : (Int × Bool × Sl × Sl × Bool × Sl × Sl) → Heap → Prop) =>
 iteB (decide (s0.1 < (p.2.2.2.len : Int))) (
 idxS p.2.2.2 s0.1 4 fun a =>
 aC ar 3 (a.add 1) h3 fun v_1 =>
 idxS p.2.2.2 s0.1 4 fun a_1 =>
 Lift.load (Value.int .i64) (a_1.add 0) h3 fun v_2 =>
 idxS l v_2 6 fun a_2 =>
 aC ae 6 a_2 h3 fun v_3 =>
 dC v_1 h3 fun v_4 h4 =>
 (cell? h4 (a_1.add 0) = some (Value.int .i64 v_2)) ∧
 (cells? h4 a_2 6 0 = some [Value.bool v_3.1, Sl.toV v_3.2.1, Sl.toV v_3.2.2.1, Value.bool v_3.2.2.2.1, Sl.toV v_3.2.2.2.2.1, Sl.toV v_3.2.2.2.2.2]) ∧
 eQ v_3 h4 fun v_5 h5 =>
 gP v_4 v_5 h5 fun v_6 h6 =>
 iI (s0.2.1, s0.2.2.1, s0.2.2.2.1, s0.2.2.2.2.1, s0.2.2.2.2.2.1, s0.2.2.2.2.2.2) v_6 h6 fun v_7 h7 =>
 Let (IntKind.wrap .i64 (s0.1 + 1) : Int) fun i =>
 K0 (i, v_7.1, v_7.2.1, v_7.2.2.1, v_7.2.2.2.1, v_7.2.2.2.2.1, v_7.2.2.2.2.2) h7
 ) (
 Q (s0.2.1, s0.2.2.1, s0.2.2.2.1, s0.2.2.2.2.1, s0.2.2.2.2.2.1, s0.2.2.2.2.2.2) h3
 )
 ) (0, v.1, v.2.1, v.2.2.1, v.2.2.2.1, v.2.2.2.2.1, v.2.2.2.2.2) h2
def ja (x0 : Bool × Sl × Sl × Bool × Sl × Sl) (h : Heap) (Q : (Bool × Sl × Sl × Bool × Sl × Sl) → Heap → Prop) : Prop :=
 mem h fun h0 =>
 bq (x0.1, x0.2.1, x0.2.2.1) h0 fun v h1 =>
 bq (x0.2.2.2.1, x0.2.2.2.2.1, x0.2.2.2.2.2) h1 fun v_1 h2 =>
 Q (v.1, v.2.1, v.2.2, v_1.1, v_1.2.1, v_1.2.2) h2
def ex (t0 : Sl × Sl × Sl × Sl × Sl) (v : Int) (x0 : Bool × Sl × Sl × Bool × Sl × Sl) (h : Heap) (Q : ((Sl × Sl × Sl × Sl × Sl) × Int) → Heap → Prop) : Prop :=
 mem h fun h0 =>
 seq (fun (K0 : Bool → Heap → Prop) =>
 iteB (decide (v < 0)) (
 K0 true h0
 ) (
 iteB (decide (v ≥ (t0.2.2.1.len : Int))) (
 K0 true h0
 ) (
 gr t0 v h0 fun v_1 h2 =>
 K0 (decide (v_1 ≥ 0)) h2
 )
 )
 ) (fun t0u1 h1 =>
 iteB t0u1 (
 Q (t0, 2) h1
 ) (
 new [] h1 fun a h3 =>
 aG 6 112 (⟨some a, 0, 0⟩ : Sl) t0.2.2.1 h3 fun v_3 h4 =>
 idxS v_3 v 6 fun a_1 =>
 da a_1 [Value.bool x0.1, Sl.toV x0.2.1, Sl.toV x0.2.2.1, Value.bool x0.2.2.2.1, Sl.toV x0.2.2.2.2.1, Sl.toV x0.2.2.2.2.2] h4 fun h5 =>
 loop (fun (s0 : Int) h6 (K0u1 : Int → Heap → Prop) =>
 iteB (decide (s0 < (t0.2.1.len : Int))) (
 idxS t0.1 s0 1 fun a_2 =>
 Lift.load (Value.int .i64) a_2 h6 fun v_4 =>
 idxS t0.2.1 s0 4 fun a_3 =>
 aC am 4 a_3 h6 fun v_5 =>
 jR v_5 v_3 h6 fun v_6 h7 =>
 (cell? h7 a_2 = some (Value.int .i64 v_4)) ∧
 ja v_6 h7 fun v_7 h8 =>
 (cell? h8 a_2 = some (Value.int .i64 v_4)) ∧
 idxS v_3 v_4 6 fun a_4 =>
 da a_4 [Value.bool v_7.1, Sl.toV v_7.2.1, Sl.toV v_7.2.2.1, Value.bool v_7.2.2.2.1, Sl.toV v_7.2.2.2.2.1, Sl.toV v_7.2.2.2.2.2] h8 fun h9 =>
 Let (IntKind.wrap .i64 (s0 + 1) : Int) fun i =>
 K0u1 i h9
 ) (
 Q ((t0.1, t0.2.1, v_3, t0.2.2.2.1, t0.2.2.2.2), 0) h6
 )
 ) 0 h5
 )
 )
def kf (t0 : Sl × Sl × Sl × Sl × Sl) (v : Int) (upper : Bool) (e : Int × Bool × Sl × Sl × Bool × Sl × Sl) (h : Heap) (Q : ((Sl × Sl × Sl × Sl × Sl) × Sl × Int) → Heap → Prop) : Prop :=
 mem h fun h0 =>
 seq (fun (K0 : Bool → Heap → Prop) =>
 iteB (decide (v < 0)) (
 K0 true h0
 ) (
 K0 (decide (v ≥ (t0.2.2.1.len : Int))) h0
 )
 ) (fun t0u1 h1 =>
 iteB t0u1 (
 Q (t0, Sl.nil, 2) h1
 ) (
 iteB (e.1 == 0) (
 Q (t0, Sl.nil, 1) h1
 ) (
 seq (fun (K0u1 : (Int × Bool × Sl × Sl × Bool × Sl × Sl × Int × Bool × Sl × Sl × Bool × Sl × Sl) → Heap → Prop) =>
 idxS t0.2.2.2.1 v 7 fun a =>
 aC ai 7 a h1 fun v_1 =>
 idxS t0.2.2.2.2 v 7 fun a_1 =>
 aC ai 7 a_1 h1 fun v_2 =>
 mem h1 fun h3 =>
 K0u1 (v_1.1, v_1.2.1, v_1.2.2.1, v_1.2.2.2.1, v_1.2.2.2.2.1, v_1.2.2.2.2.2.1, v_1.2.2.2.2.2.2, v_2.1, v_2.2.1, v_2.2.2.1, v_2.2.2.2.1, v_2.2.2.2.2.1, v_2.2.2.2.2.2.1, v_2.2.2.2.2.2.2) h3
 ) (fun t0u2 h2 =>
 seq (fun (K0u2 : Bool → Heap → Prop) =>
 iteB upper (
 iteB (t0u2.2.2.2.2.2.2.2.1 != 0) (
 bZ (t0u2.2.2.2.2.2.2.2.2.1, t0u2.2.2.2.2.2.2.2.2.2.1, t0u2.2.2.2.2.2.2.2.2.2.2.1, t0u2.2.2.2.2.2.2.2.2.2.2.2.1, t0u2.2.2.2.2.2.2.2.2.2.2.2.2.1, t0u2.2.2.2.2.2.2.2.2.2.2.2.2.2) (e.2.1, e.2.2.1, e.2.2.2.1, e.2.2.2.2.1, e.2.2.2.2.2.1, e.2.2.2.2.2.2) h2 fun v_3 h5 =>
 iteB (decide (v_3 ≤ 0)) (
 K0u2 true h5
 ) (
 iteB (!upper) (
 iteB (t0u2.1 != 0) (
 bZ (t0u2.2.1, t0u2.2.2.1, t0u2.2.2.2.1, t0u2.2.2.2.2.1, t0u2.2.2.2.2.2.1, t0u2.2.2.2.2.2.2.1) (e.2.1, e.2.2.1, e.2.2.2.1, e.2.2.2.2.1, e.2.2.2.2.2.1, e.2.2.2.2.2.2) h5 fun v_4 h6 =>
 K0u2 (decide (v_4 ≥ 0)) h6
 ) (
 K0u2 false h5
 )
 ) (
 K0u2 false h5
 )
 )
 ) (
 iteB (!upper) (
 iteB (t0u2.1 != 0) (
 bZ (t0u2.2.1, t0u2.2.2.1, t0u2.2.2.2.1, t0u2.2.2.2.2.1, t0u2.2.2.2.2.2.1, t0u2.2.2.2.2.2.2.1) (e.2.1, e.2.2.1, e.2.2.2.1, e.2.2.2.2.1, e.2.2.2.2.2.1, e.2.2.2.2.2.2) h2 fun v_5 h7 =>
 K0u2 (decide (v_5 ≥ 0)) h7
 ) (
 K0u2 false h2
 )
 ) (
 K0u2 false h2
 )
 )
 ) (
 iteB (!upper) (
 iteB (t0u2.1 != 0) (
 bZ (t0u2.2.1, t0u2.2.2.1, t0u2.2.2.2.1, t0u2.2.2.2.2.1, t0u2.2.2.2.2.2.1, t0u2.2.2.2.2.2.2.1) (e.2.1, e.2.2.1, e.2.2.2.1, e.2.2.2.2.1, e.2.2.2.2.2.1, e.2.2.2.2.2.2) h2 fun v_6 h8 =>
 K0u2 (decide (v_6 ≥ 0)) h8
 ) (
 K0u2 false h2
 )
 ) (
 K0u2 false h2
 )
 )
 ) (fun t0u3 h4 =>
 iteB t0u3 (
 Q (t0, Sl.nil, 0) h4
 ) (
 seq (fun (K0u3 : Bool → Heap → Prop) =>
 iteB upper (
 iteB (t0u2.1 != 0) (
 bZ (t0u2.2.1, t0u2.2.2.1, t0u2.2.2.2.1, t0u2.2.2.2.2.1, t0u2.2.2.2.2.2.1, t0u2.2.2.2.2.2.2.1) (e.2.1, e.2.2.1, e.2.2.2.1, e.2.2.2.2.1, e.2.2.2.2.2.1, e.2.2.2.2.2.2) h4 fun v_7 h10 =>
 K0u3 (decide (v_7 > 0)) h10
 ) (
 K0u3 false h4
 )
 ) (
 K0u3 false h4
 )
 ) (fun t0u4 h9 =>
 iteB t0u4 (
 seq (fun (K0u4 : (Sl × Int × Sl × Sl × Sl × Sl × Sl) → Heap → Prop) =>
 fC h9 fun v_8 h12 =>
 fC h12 fun v_9 h13 =>
 new [Value.int .i64 e.1, Value.bool v_8.1, Sl.toV v_8.2.1, Sl.toV v_8.2.2, Value.int .i64 t0u2.1, Value.bool v_9.1, Sl.toV v_9.2.1, Sl.toV v_9.2.2] h13 fun a_3 h15 =>
 K0u4 ((⟨some a_3, 2, 2⟩ : Sl), 0, t0.1, t0.2.1, t0.2.2.1, t0.2.2.2.1, t0.2.2.2.2) h15
 ) (fun t0u5 h11 =>
 Q ((t0u5.2.2.1, t0u5.2.2.2.1, t0u5.2.2.2.2.1, t0u5.2.2.2.2.2.1, t0u5.2.2.2.2.2.2), t0u5.1, t0u5.2.1) h11
 )
 ) (
 seq (fun (K0u5 : Bool → Heap → Prop) =>
 iteB (!upper) (
 iteB (t0u2.2.2.2.2.2.2.2.1 != 0) (
 bZ (t0u2.2.2.2.2.2.2.2.2.1, t0u2.2.2.2.2.2.2.2.2.2.1, t0u2.2.2.2.2.2.2.2.2.2.2.1, t0u2.2.2.2.2.2.2.2.2.2.2.2.1, t0u2.2.2.2.2.2.2.2.2.2.2.2.2.1, t0u2.2.2.2.2.2.2.2.2.2.2.2.2.2) (e.2.1, e.2.2.1, e.2.2.2.1, e.2.2.2.2.1, e.2.2.2.2.2.1, e.2.2.2.2.2.2) h9 fun v_12 h17 =>
 K0u5 (decide (v_12 < 0)) h17
 ) (
 K0u5 false h9
 )
 ) (
 K0u5 false h9
 )
 ) (fun t0u6 h16 =>
 iteB t0u6 (
 seq (fun (K0u6 : (Sl × Int × Sl × Sl × Sl × Sl × Sl) → Heap → Prop) =>
 fC h16 fun v_13 h19 =>
 fC h19 fun v_14 h20 =>
 new [Value.int .i64 e.1, Value.bool v_13.1, Sl.toV v_13.2.1, Sl.toV v_13.2.2, Value.int .i64 t0u2.2.2.2.2.2.2.2.1, Value.bool v_14.1, Sl.toV v_14.2.1, Sl.toV v_14.2.2] h20 fun a_5 h22 =>
 K0u6 ((⟨some a_5, 2, 2⟩ : Sl), 0, t0.1, t0.2.1, t0.2.2.1, t0.2.2.2.1, t0.2.2.2.2) h22
 ) (fun t0u7 h18 =>
 Q ((t0u7.2.2.1, t0u7.2.2.2.1, t0u7.2.2.2.2.1, t0u7.2.2.2.2.2.1, t0u7.2.2.2.2.2.2), t0u7.1, t0u7.2.1) h18
 )
 ) (
 seq (fun (K0u7 : (Bool × Sl × Sl × Sl × Sl × Sl) → Heap → Prop) =>
 iteB upper (
 new [] h16 fun a_6 h24 =>
 aG 7 120 (⟨some a_6, 0, 0⟩ : Sl) t0.2.2.2.2 h24 fun v_18 h25 =>
 idxS v_18 v 7 fun a_7 =>
 da a_7 [Value.int .i64 e.1, Value.bool e.2.1, Sl.toV e.2.2.1, Sl.toV e.2.2.2.1, Value.bool e.2.2.2.2.1, Sl.toV e.2.2.2.2.2.1, Sl.toV e.2.2.2.2.2.2] h25 fun h26 =>
 idxS t0.2.2.1 v 6 fun a_8 =>
 aC ae 6 a_8 h26 fun v_19 =>
 bZ v_19 (e.2.1, e.2.2.1, e.2.2.2.1, e.2.2.2.2.1, e.2.2.2.2.2.1, e.2.2.2.2.2.2) h26 fun v_20 h27 =>
 K0u7 (decide (v_20 > 0), t0.1, t0.2.1, t0.2.2.1, t0.2.2.2.1, v_18) h27
 ) (
 new [] h16 fun a_9 h28 =>
 aG 7 120 (⟨some a_9, 0, 0⟩ : Sl) t0.2.2.2.1 h28 fun v_22 h29 =>
 idxS v_22 v 7 fun a_10 =>
 da a_10 [Value.int .i64 e.1, Value.bool e.2.1, Sl.toV e.2.2.1, Sl.toV e.2.2.2.1, Value.bool e.2.2.2.2.1, Sl.toV e.2.2.2.2.2.1, Sl.toV e.2.2.2.2.2.2] h29 fun h30 =>
 idxS t0.2.2.1 v 6 fun a_11 =>
 aC ae 6 a_11 h30 fun v_23 =>
 bZ v_23 (e.2.1, e.2.2.1, e.2.2.2.1, e.2.2.2.2.1, e.2.2.2.2.2.1, e.2.2.2.2.2.2) h30 fun v_24 h31 =>
 K0u7 (decide (v_24 < 0), t0.1, t0.2.1, t0.2.2.1, v_22, t0.2.2.2.2) h31
 )
 ) (fun t0u8 h23 =>
 seq (fun (K0u8 : (Sl × Sl × Sl × Sl × Sl) → Heap → Prop) =>
 seq (fun (K0u9 : Bool → Heap → Prop) =>
 iteB t0u8.1 (
 gr (t0u8.2.1, t0u8.2.2.1, t0u8.2.2.2.1, t0u8.2.2.2.2.1, t0u8.2.2.2.2.2) v h23 fun v_25 h34 =>
 K0u9 (decide (v_25 < 0)) h34
 ) (
 K0u9 false h23
 )
 ) (fun t0u10 h33 =>
 iteB t0u10 (
 ex (t0u8.2.1, t0u8.2.2.1, t0u8.2.2.2.1, t0u8.2.2.2.2.1, t0u8.2.2.2.2.2) v (e.2.1, e.2.2.1, e.2.2.2.1, e.2.2.2.2.1, e.2.2.2.2.2.1, e.2.2.2.2.2.2) h33 fun v_26 h35 =>
 K0u8 (v_26.1.1, v_26.1.2.1, v_26.1.2.2.1, v_26.1.2.2.2.1, v_26.1.2.2.2.2) h35
 ) (
 K0u8 (t0u8.2.1, t0u8.2.2.1, t0u8.2.2.2.1, t0u8.2.2.2.2.1, t0u8.2.2.2.2.2) h33
 )
 )
 ) (fun t0u9 h32 =>
 Q (t0u9, Sl.nil, 0) h32
 )
 )
 )
 )
 )
 )
 )
 )
 )
 )
 )
 )
def jp (a : Sl) (b : Sl) (h : Heap) (Q : Bool → Heap → Prop) : Prop :=
 iteB ((a.len : Int) != (b.len : Int)) (
 Q false h
 ) (
 loop (fun (s0 : Int) h0 (K0 : Int → Heap → Prop) =>
 iteB (decide (s0 < (a.len : Int))) (
 seq (fun (K0u1 : Bool → Heap → Prop) =>
 idxS a s0 4 fun a_1 =>
 Lift.load (Value.int .i64) (a_1.add 0) h0 fun v =>
 idxS b s0 4 fun a_2 =>
 Lift.load (Value.int .i64) (a_2.add 0) h0 fun v_1 =>
 iteB (v != v_1) (
 K0u1 true h0
 ) (
 idxS a s0 4 fun a_3 =>
 aC ar 3 (a_3.add 1) h0 fun v_2 =>
 idxS b s0 4 fun a_4 =>
 aC ar 3 (a_4.add 1) h0 fun v_3 =>
 cW v_2 v_3 h0 fun v_4 h2 =>
 K0u1 (!v_4) h2
 )
 ) (fun t0 h1 =>
 iteB t0 (
 Q false h1
 ) (
 Let (IntKind.wrap .i64 (s0 + 1) : Int) fun i =>
 K0 i h1
 )
 )
 ) (
 Q true h0
 )
 ) 0 h
 )
def mA (p : Bool × Sl × Sl × Sl) (q : Bool × Sl × Sl × Sl) (h : Heap) (Q : Bool → Heap → Prop) : Prop :=
 mem h fun h0 =>
 seq (fun (K0 : Bool → Heap → Prop) =>
 cW (p.1, p.2.1, p.2.2.1) (q.1, q.2.1, q.2.2.1) h0 fun v h2 =>
 iteB (!v) (
 K0 true h2
 ) (
 K0 ((p.2.2.2.len : Int) != (q.2.2.2.len : Int)) h2
 )
 ) (fun t0 h1 =>
 iteB t0 (
 Q false h1
 ) (
 loop (fun (s0 : Int) h3 (K0u1 : Int → Heap → Prop) =>
 iteB (decide (s0 < (p.2.2.2.len : Int))) (
 seq (fun (K0u2 : Bool → Heap → Prop) =>
 idxS p.2.2.2 s0 4 fun a =>
 Lift.load (Value.int .i64) (a.add 0) h3 fun v_1 =>
 idxS q.2.2.2 s0 4 fun a_1 =>
 Lift.load (Value.int .i64) (a_1.add 0) h3 fun v_2 =>
 iteB (v_1 != v_2) (
 K0u2 true h3
 ) (
 idxS p.2.2.2 s0 4 fun a_2 =>
 aC ar 3 (a_2.add 1) h3 fun v_3 =>
 idxS q.2.2.2 s0 4 fun a_3 =>
 aC ar 3 (a_3.add 1) h3 fun v_4 =>
 cW v_3 v_4 h3 fun v_5 h5 =>
 K0u2 (!v_5) h5
 )
 ) (fun t0u1 h4 =>
 iteB t0u1 (
 Q false h4
 ) (
 Let (IntKind.wrap .i64 (s0 + 1) : Int) fun i =>
 K0u1 i h4
 )
 )
 ) (
 Q true h3
 )
 ) 0 h1
 )
 )
def eX (x0 : Bool × Sl × Sl × Bool × Sl × Sl) (y : Bool × Sl × Sl × Bool × Sl × Sl) (h : Heap) (Q : Bool → Heap → Prop) : Prop :=
 mem h fun h0 =>
 seq (fun (K0 : Bool → Heap → Prop) =>
 cW (x0.1, x0.2.1, x0.2.2.1) (y.1, y.2.1, y.2.2.1) h0 fun v h2 =>
 iteB v (
 cW (x0.2.2.2.1, x0.2.2.2.2.1, x0.2.2.2.2.2) (y.2.2.2.1, y.2.2.2.2.1, y.2.2.2.2.2) h2 fun v_1 h3 =>
 K0 v_1 h3
 ) (
 K0 false h2
 )
 ) (fun t0 h1 =>
 Q t0 h1
 )
def jh (s0 : Sl × Sl × Sl × Sl × Sl) (t0 : Sl × Sl × Sl × Sl × Sl) (h : Heap) (Q : Bool → Heap → Prop) : Prop :=
 mem h fun h0 =>
 seq (fun (K0 : Bool → Heap → Prop) =>
 iteB ((s0.1.len : Int) != (t0.1.len : Int)) (
 K0 true h0
 ) (
 iteB ((s0.2.1.len : Int) != (t0.2.1.len : Int)) (
 K0 true h0
 ) (
 iteB ((s0.2.2.1.len : Int) != (t0.2.2.1.len : Int)) (
 K0 true h0
 ) (
 iteB ((s0.2.2.2.1.len : Int) != (t0.2.2.2.1.len : Int)) (
 K0 true h0
 ) (
 K0 ((s0.2.2.2.2.len : Int) != (t0.2.2.2.2.len : Int)) h0
 )
 )
 )
 )
 ) (fun t0u1 h1 =>
 iteB t0u1 (
 Q false h1
 ) (
 loop (fun (s0u1 : Int) h2 (K0u1 : Int → Heap → Prop) =>
 iteB (decide (s0u1 < (s0.1.len : Int))) (
 idxS s0.1 s0u1 1 fun a =>
 Lift.load (Value.int .i64) a h2 fun v =>
 idxS t0.1 s0u1 1 fun a_1 =>
 Lift.load (Value.int .i64) a_1 h2 fun v_1 =>
 iteB (v != v_1) (
 Q false h2
 ) (
 Let (IntKind.wrap .i64 (s0u1 + 1) : Int) fun i =>
 K0u1 i h2
 )
 ) (
 loop (fun (s0u2 : Int) h3 (K0u2 : Int → Heap → Prop) =>
 iteB (decide (s0u2 < (s0.2.1.len : Int))) (
 idxS s0.2.1 s0u2 4 fun a_2 =>
 aC am 4 a_2 h3 fun v_2 =>
 idxS t0.2.1 s0u2 4 fun a_3 =>
 aC am 4 a_3 h3 fun v_3 =>
 mA v_2 v_3 h3 fun v_4 h4 =>
 iteB (!v_4) (
 Q false h4
 ) (
 Let (IntKind.wrap .i64 (s0u2 + 1) : Int) fun i_1 =>
 K0u2 i_1 h4
 )
 ) (
 loop (fun (s0u3 : Int) h5 (K0u3 : Int → Heap → Prop) =>
 iteB (decide (s0u3 < (s0.2.2.1.len : Int))) (
 idxS s0.2.2.1 s0u3 6 fun a_4 =>
 aC ae 6 a_4 h5 fun v_5 =>
 idxS t0.2.2.1 s0u3 6 fun a_5 =>
 aC ae 6 a_5 h5 fun v_6 =>
 eX v_5 v_6 h5 fun v_7 h6 =>
 iteB (!v_7) (
 Q false h6
 ) (
 Let (IntKind.wrap .i64 (s0u3 + 1) : Int) fun i_2 =>
 K0u3 i_2 h6
 )
 ) (
 loop (fun (s0u4 : Int) h7 (K0u4 : Int → Heap → Prop) =>
 iteB (decide (s0u4 < (s0.2.2.2.1.len : Int))) (
 seq (fun (K0u5 : Bool → Heap → Prop) =>
 idxS s0.2.2.2.1 s0u4 7 fun a_6 =>
 Lift.load (Value.int .i64) (a_6.add 0) h7 fun v_8 =>
 idxS t0.2.2.2.1 s0u4 7 fun a_7 =>
 Lift.load (Value.int .i64) (a_7.add 0) h7 fun v_9 =>
 iteB (v_8 != v_9) (
 K0u5 true h7
 ) (
 idxS s0.2.2.2.1 s0u4 7 fun a_8 =>
 aC ae 6 (a_8.add 1) h7 fun v_10 =>
 idxS t0.2.2.2.1 s0u4 7 fun a_9 =>
 aC ae 6 (a_9.add 1) h7 fun v_11 =>
 eX v_10 v_11 h7 fun v_12 h9 =>
 K0u5 (!v_12) h9
 )
 ) (fun t0u2 h8 =>
 iteB t0u2 (
 Q false h8
 ) (
 Let (IntKind.wrap .i64 (s0u4 + 1) : Int) fun i_3 =>
 K0u4 i_3 h8
 )
 )
 ) (
 loop (fun (s0u5 : Int) h10 (K0u6 : Int → Heap → Prop) =>
 iteB (decide (s0u5 < (s0.2.2.2.2.len : Int))) (
 seq (fun (K0u7 : Bool → Heap → Prop) =>
 idxS s0.2.2.2.2 s0u5 7 fun a_10 =>
 Lift.load (Value.int .i64) (a_10.add 0) h10 fun v_13 =>
 idxS t0.2.2.2.2 s0u5 7 fun a_11 =>
 Lift.load (Value.int .i64) (a_11.add 0) h10 fun v_14 =>
 iteB (v_13 != v_14) (
 K0u7 true h10
 ) (
 idxS s0.2.2.2.2 s0u5 7 fun a_12 =>
 aC ae 6 (a_12.add 1) h10 fun v_15 =>
 idxS t0.2.2.2.2 s0u5 7 fun a_13 =>
 aC ae 6 (a_13.add 1) h10 fun v_16 =>
 eX v_15 v_16 h10 fun v_17 h12 =>
 K0u7 (!v_17) h12
 )
 ) (fun t0u3 h11 =>
 iteB t0u3 (
 Q false h11
 ) (
 Let (IntKind.wrap .i64 (s0u5 + 1) : Int) fun i_4 =>
 K0u6 i_4 h11
 )
 )
 ) (
 Q true h10
 )
 ) 0 h7
 )
 ) 0 h5
 )
 ) 0 h3
 )
 ) 0 h2
 )
 ) 0 h1
 )
 )
def gX (t0 : Sl × Sl × Sl × Sl × Sl) (v : Int) (h : Heap) (Q : Bool → Heap → Prop) : Prop :=
 mem h fun h0 =>
 seq (fun (K0 : Bool → Heap → Prop) =>
 idxS t0.2.2.2.1 v 7 fun a =>
 Lift.load (Value.int .i64) (a.add 0) h0 fun v_1 =>
 iteB (v_1 != 0) (
 idxS t0.2.2.1 v 6 fun a_1 =>
 aC ae 6 a_1 h0 fun v_2 =>
 idxS t0.2.2.2.1 v 7 fun a_2 =>
 aC ae 6 (a_2.add 1) h0 fun v_3 =>
 bZ v_2 v_3 h0 fun v_4 h2 =>
 K0 (decide (v_4 < 0)) h2
 ) (
 K0 false h0
 )
 ) (fun t0u1 h1 =>
 Q t0u1 h1
 )
def j6 (t0 : Sl × Sl × Sl × Sl × Sl) (v : Int) (h : Heap) (Q : Bool → Heap → Prop) : Prop :=
 mem h fun h0 =>
 seq (fun (K0 : Bool → Heap → Prop) =>
 idxS t0.2.2.2.2 v 7 fun a =>
 Lift.load (Value.int .i64) (a.add 0) h0 fun v_1 =>
 iteB (v_1 != 0) (
 idxS t0.2.2.1 v 6 fun a_1 =>
 aC ae 6 a_1 h0 fun v_2 =>
 idxS t0.2.2.2.2 v 7 fun a_2 =>
 aC ae 6 (a_2.add 1) h0 fun v_3 =>
 bZ v_2 v_3 h0 fun v_4 h2 =>
 K0 (decide (v_4 > 0)) h2
 ) (
 K0 false h0
 )
 ) (fun t0u1 h1 =>
 Q t0u1 h1
 )
def uV (t0 : Sl × Sl × Sl × Sl × Sl) (v : Int) (h : Heap) (Q : Bool → Heap → Prop) : Prop :=
 mem h fun h0 =>
 seq (fun (K0 : Bool → Heap → Prop) =>
 idxS t0.2.2.2.2 v 7 fun a =>
 Lift.load (Value.int .i64) (a.add 0) h0 fun v_1 =>
 iteB (v_1 == 0) (
 K0 true h0
 ) (
 idxS t0.2.2.1 v 6 fun a_1 =>
 aC ae 6 a_1 h0 fun v_2 =>
 idxS t0.2.2.2.2 v 7 fun a_2 =>
 aC ae 6 (a_2.add 1) h0 fun v_3 =>
 bZ v_2 v_3 h0 fun v_4 h2 =>
 K0 (decide (v_4 < 0)) h2
 )
 ) (fun t0u1 h1 =>
 Q t0u1 h1
 )
def jf (t0 : Sl × Sl × Sl × Sl × Sl) (v : Int) (h : Heap) (Q : Bool → Heap → Prop) : Prop :=
 mem h fun h0 =>
 seq (fun (K0 : Bool → Heap → Prop) =>
 idxS t0.2.2.2.1 v 7 fun a =>
 Lift.load (Value.int .i64) (a.add 0) h0 fun v_1 =>
 iteB (v_1 == 0) (
 K0 true h0
 ) (
 idxS t0.2.2.1 v 6 fun a_1 =>
 aC ae 6 a_1 h0 fun v_2 =>
 idxS t0.2.2.2.1 v 7 fun a_2 =>
 aC ae 6 (a_2.add 1) h0 fun v_3 =>
 bZ v_2 v_3 h0 fun v_4 h2 =>
 K0 (decide (v_4 > 0)) h2
 )
 ) (fun t0u1 h1 =>
 Q t0u1 h1
 )
def qP (x0 : Bool × Sl × Sl × Bool × Sl × Sl) (h : Heap) (Q : (Bool × Sl × Sl × Bool × Sl × Sl) → Heap → Prop) : Prop :=
 mem h fun h0 =>
 d9 (x0.1, x0.2.1, x0.2.2.1) h0 fun v h1 =>
 d9 (x0.2.2.2.1, x0.2.2.2.2.1, x0.2.2.2.2.2) h1 fun v_1 h2 =>
 Q (v.1, v.2.1, v.2.2, v_1.1, v_1.2.1, v_1.2.2) h2
def ky (x0 : Bool × Sl × Sl) (y : Bool × Sl × Sl) (h : Heap) (Q : (Bool × Sl × Sl) → Heap → Prop) : Prop :=
 mem h fun h0 =>
 iteB ((y.2.1.len : Int) == 0) (
 du 0 h0 fun v h1 =>
 Q v h1
 ) (
 c8 x0.2.1 y.2.2 h0 fun v_1 h2 =>
 c8 x0.2.2 y.2.1 h2 fun v_2 h3 =>
 dE ((!(x0.1 == y.1)), v_1, v_2) h3 fun v_3 h4 =>
 Q v_3 h4
 )
def eT (p : Bool × Sl × Sl × Sl) (v : Int) (h : Heap) (Q : (Bool × Sl × Sl) → Heap → Prop) : Prop :=
 mem h fun h0 =>
 loop (fun (s0 : Int × Bool × Sl × Sl) h1 (K0 : (Int × Bool × Sl × Sl) → Heap → Prop) =>
 iteB (decide (s0.1 < (p.2.2.2.len : Int))) (
 idxS p.2.2.2 s0.1 4 fun a =>
 Lift.load (Value.int .i64) (a.add 0) h1 fun v_1 =>
 iteB (v_1 == v) (
 idxS p.2.2.2 s0.1 4 fun a_1 =>
 aC ar 3 (a_1.add 1) h1 fun v_2 =>
 dC v_2 h1 fun v_3 h2 =>
 Q v_3 h2
 ) (
 Let (IntKind.wrap .i64 (s0.1 + 1) : Int) fun i =>
 K0 (i, s0.2.1, s0.2.2.1, s0.2.2.2) h1
 )
 ) (
 du 0 h1 fun v_4 h3 =>
 Q v_4 h3
 )
 ) (0, false, Sl.nil, Sl.nil) h0
def et (p : Bool × Sl × Sl × Sl) (k : Bool × Sl × Sl) (q : Bool × Sl × Sl × Sl) (h : Heap) (Q : (Bool × Sl × Sl × Sl) → Heap → Prop) : Prop :=
 mem h fun h0 =>
 seq (fun (K0 : (Bool × Sl × Sl × Sl) → Heap → Prop) =>
 mem h0 fun h2 =>
 dC (p.1, p.2.1, p.2.2.1) h2 fun v_15 h33 =>
 mem h33 fun h34 =>
 dC (q.1, q.2.1, q.2.2.1) h34 fun v_16 h35 =>
 mem h35 fun h36 =>
 gm k v_16 h36 fun v_17 h37 =>
 mem h37 fun h38 =>
 fh v_15 v_17 h38 fun v_18 h39 =>
 mem h39 fun h40 =>
 bq v_18 h40 fun v_19 h41 =>
 mem h41 fun h42 =>
 K0 (v_19.1, v_19.2.1, v_19.2.2, Sl.nil) h42
 ) (fun t0 h1 =>
 new [] h1 fun a h43 =>
 Let ((⟨some a, 0, 0⟩ : Sl) : Sl) fun vars =>
 loop (fun (s0 : Sl × Int × Int) h44 (K0u1 : (Sl × Int × Int) → Heap → Prop) =>
 seq (fun (K0u2 : Bool → Heap → Prop) =>
 iteB (decide (s0.2.1 < (p.2.2.2.len : Int))) (
 K0u2 true h44
 ) (
 K0u2 (decide (s0.2.2 < (q.2.2.2.len : Int))) h44
 )
 ) (fun t0u1 h45 =>
 iteB t0u1 (
 seq (fun (K0u3 : Bool → Heap → Prop) =>
 iteB (s0.2.2 == (q.2.2.2.len : Int)) (
 K0u3 true h45
 ) (
 iteB (decide (s0.2.1 < (p.2.2.2.len : Int))) (
 idxS p.2.2.2 s0.2.1 4 fun a_1 =>
 Lift.load (Value.int .i64) (a_1.add 0) h45 fun v_21 =>
 idxS q.2.2.2 s0.2.2 4 fun a_2 =>
 Lift.load (Value.int .i64) (a_2.add 0) h45 fun v_22 =>
 K0u3 (decide (v_21 ≤ v_22)) h45
 ) (
 K0u3 false h45
 )
 )
 ) (fun t0u2 h46 =>
 iteB t0u2 (
 idxS p.2.2.2 s0.2.1 4 fun a_3 =>
 Lift.load (Value.int .i64) (a_3.add 0) h46 fun v_23 =>
 new [Value.int .i64 v_23] h46 fun a_4 h47 =>
 aG 1 8 s0.1 (⟨some a_4, 1, 1⟩ : Sl) h47 fun v_25 h48 =>
 seq (fun (K0u4 : Int → Heap → Prop) =>
 seq (fun (K0u5 : Bool → Heap → Prop) =>
 iteB (decide (s0.2.2 < (q.2.2.2.len : Int))) (
 idxS p.2.2.2 s0.2.1 4 fun a_5 =>
 Lift.load (Value.int .i64) (a_5.add 0) h48 fun v_26 =>
 idxS q.2.2.2 s0.2.2 4 fun a_6 =>
 Lift.load (Value.int .i64) (a_6.add 0) h48 fun v_27 =>
 K0u5 (v_26 == v_27) h48
 ) (
 K0u5 false h48
 )
 ) (fun t0u4 h50 =>
 iteB t0u4 (
 Let (IntKind.wrap .i64 (s0.2.2 + 1) : Int) fun j =>
 K0u4 j h50
 ) (
 K0u4 s0.2.2 h50
 )
 )
 ) (fun t0u3 h49 =>
 Let (IntKind.wrap .i64 (s0.2.1 + 1) : Int) fun i =>
 K0u1 (v_25, i, t0u3) h49
 )
 ) (
 idxS q.2.2.2 s0.2.2 4 fun a_7 =>
 Lift.load (Value.int .i64) (a_7.add 0) h46 fun v_28 =>
 new [Value.int .i64 v_28] h46 fun a_8 h51 =>
 aG 1 8 s0.1 (⟨some a_8, 1, 1⟩ : Sl) h51 fun v_30 h52 =>
 Let (IntKind.wrap .i64 (s0.2.2 + 1) : Int) fun j_1 =>
 K0u1 (v_30, s0.2.1, j_1) h52
 )
 )
 ) (
 loop (fun (s0u1 : Int × Bool × Sl × Sl × Sl) h53 (K0u6 : (Int × Bool × Sl × Sl × Sl) → Heap → Prop) =>
 iteB (decide (s0u1.1 < (s0.1.len : Int))) (
 seq (fun (K0u7 : (Bool × Sl × Sl × Sl) → Heap → Prop) =>
 seq (fun (K0u8 : (Bool × Sl × Sl) → Heap → Prop) =>
 idxS s0.1 s0u1.1 1 fun a_9 =>
 Lift.load (Value.int .i64) a_9 h53 fun v_31 =>
 idxS s0.1 s0u1.1 1 fun a_10 =>
 Lift.load (Value.int .i64) a_10 h53 fun v_32 =>
 mem h53 fun h56 =>
 eT p v_31 h56 fun v_43 h77 =>
 (cell? h77 a_10 = some (Value.int .i64 v_32)) ∧
 mem h77 fun h78 =>
 eT q v_32 h78 fun v_44 h79 =>
 mem h79 fun h80 =>
 gm k v_44 h80 fun v_45 h81 =>
 mem h81 fun h82 =>
 fh v_43 v_45 h82 fun v_46 h83 =>
 mem h83 fun h84 =>
 K0u8 v_46 h84
 ) (fun t0u6 h55 =>
 iteB (decide ((t0u6.2.1.len : Int) > 0)) (
 idxS s0.1 s0u1.1 1 fun a_11 =>
 Lift.load (Value.int .i64) a_11 h55 fun v_47 =>
 bq t0u6 h55 fun v_48 h85 =>
 (cell? h85 a_11 = some (Value.int .i64 v_47)) ∧
 new [Value.int .i64 v_47, Value.bool v_48.1, Sl.toV v_48.2.1, Sl.toV v_48.2.2] h85 fun a_12 h86 =>
 aG 4 64 s0u1.2.2.2.2 (⟨some a_12, 1, 1⟩ : Sl) h86 fun v_50 h87 =>
 K0u7 (s0u1.2.1, s0u1.2.2.1, s0u1.2.2.2.1, v_50) h87
 ) (
 K0u7 (s0u1.2.1, s0u1.2.2.1, s0u1.2.2.2.1, s0u1.2.2.2.2) h55
 )
 )
 ) (fun t0u5 h54 =>
 Let (IntKind.wrap .i64 (s0u1.1 + 1) : Int) fun n =>
 K0u6 (n, t0u5.1, t0u5.2.1, t0u5.2.2.1, t0u5.2.2.2) h54
 )
 ) (
 Q (s0u1.2.1, s0u1.2.2.1, s0u1.2.2.2.1, s0u1.2.2.2.2) h53
 )
 ) (0, t0.1, t0.2.1, t0.2.2.1, t0.2.2.2) h45
 )
 )
 ) (vars, 0, 0) h43
 )
def gY (t0 : Sl × Sl × Sl × Sl × Sl) (row : Int) (v : Int) (h : Heap) (Q : ((Sl × Sl × Sl × Sl × Sl) × Int) → Heap → Prop) : Prop :=
 mem h fun h0 =>
 seq (fun (K0 : Bool → Heap → Prop) =>
 iteB (decide (row < 0)) (
 K0 true h0
 ) (
 K0 (decide (row ≥ (t0.2.1.len : Int))) h0
 )
 ) (fun t0u1 h1 =>
 iteB t0u1 (
 Q (t0, 2) h1
 ) (
 idxS t0.2.1 row 4 fun a =>
 aC am 4 a h1 fun v_1 =>
 eT v_1 v h1 fun v_2 h2 =>
 mem h2 fun h3 =>
 iteB ((v_2.2.1.len : Int) == 0) (
 Q (t0, 1) h3
 ) (
 idxS t0.1 row 1 fun a_1 =>
 Lift.load (Value.int .i64) a_1 h3 fun v_3 =>
 du 1 h3 fun v_4 h4 =>
 mem h4 fun h5 =>
 seq (fun (K0u1 : (Bool × Sl × Sl × Sl) → Heap → Prop) =>
 idxS t0.2.1 row 4 fun a_2 =>
 aC am 4 a_2 h5 fun v_5 =>
 mem h5 fun h7 =>
 du (-1) h7 fun v_16 h28 =>
 (cells? h28 a_2 4 0 = some [Value.bool v_5.1, Sl.toV v_5.2.1, Sl.toV v_5.2.2.1, Sl.toV v_5.2.2.2]) ∧
 mem h28 fun h29 =>
 bq v_4 h29 fun v_17 h30 =>
 (cells? h30 a_2 4 0 = some [Value.bool v_5.1, Sl.toV v_5.2.1, Sl.toV v_5.2.2.1, Sl.toV v_5.2.2.2]) ∧
 mem h30 fun h31 =>
 new [Value.int .i64 v_3, Value.bool v_17.1, Sl.toV v_17.2.1, Sl.toV v_17.2.2] h31 fun a_6 h32 =>
 (cells? h32 a_2 4 0 = some [Value.bool v_5.1, Sl.toV v_5.2.1, Sl.toV v_5.2.2.1, Sl.toV v_5.2.2.2]) ∧
 mem h32 fun h33 =>
 et v_5 v_16 (false, Sl.nil, Sl.nil, (⟨some a_6, 1, 1⟩ : Sl)) h33 fun v_19 h34 =>
 mem h34 fun h35 =>
 K0u1 v_19 h35
 ) (fun t0u2 h6 =>
 ky v_4 v_2 h6 fun v_20 h36 =>
 d9 v_20 h36 fun v_21 h37 =>
 mem h37 fun h38 =>
 seq (fun (K0u2 : (Bool × Sl × Sl × Sl) → Heap → Prop) =>
 mem h38 fun h40 =>
 bq v_4 h40 fun v_28 h53 =>
 mem h53 fun h54 =>
 new [Value.int .i64 v, Value.bool v_28.1, Sl.toV v_28.2.1, Sl.toV v_28.2.2] h54 fun a_9 h55 =>
 mem h55 fun h56 =>
 et (false, Sl.nil, Sl.nil, (⟨some a_9, 1, 1⟩ : Sl)) v_21 t0u2 h56 fun v_30 h57 =>
 mem h57 fun h58 =>
 K0u2 v_30 h58
 ) (fun t0u3 h39 =>
 new [] h39 fun a_10 h59 =>
 Let ((⟨some a_10, 0, 0⟩ : Sl) : Sl) fun rows =>
 loop (fun (s0 : Sl × Int) h60 (K0u3 : (Sl × Int) → Heap → Prop) =>
 iteB (decide (s0.2 < (t0.2.1.len : Int))) (
 seq (fun (K0u4 : Sl → Heap → Prop) =>
 iteB (s0.2 == row) (
 new [Value.bool t0u3.1, Sl.toV t0u3.2.1, Sl.toV t0u3.2.2.1, Sl.toV t0u3.2.2.2] h60 fun a_11 h62 =>
 aG 4 80 s0.1 (⟨some a_11, 1, 1⟩ : Sl) h62 fun v_33 h63 =>
 K0u4 v_33 h63
 ) (
 idxS t0.2.1 s0.2 4 fun a_12 =>
 aC am 4 a_12 h60 fun v_34 =>
 eT v_34 v h60 fun v_35 h64 =>
 mem h64 fun h65 =>
 seq (fun (K0u5 : (Bool × Sl × Sl × Sl) → Heap → Prop) =>
 idxS t0.2.1 s0.2 4 fun a_13 =>
 aC am 4 a_13 h65 fun v_36 =>
 mem h65 fun h67 =>
 d9 v_35 h67 fun v_47 h88 =>
 (cells? h88 a_13 4 0 = some [Value.bool v_36.1, Sl.toV v_36.2.1, Sl.toV v_36.2.2.1, Sl.toV v_36.2.2.2]) ∧
 mem h88 fun h89 =>
 bq v_4 h89 fun v_48 h90 =>
 (cells? h90 a_13 4 0 = some [Value.bool v_36.1, Sl.toV v_36.2.1, Sl.toV v_36.2.2.1, Sl.toV v_36.2.2.2]) ∧
 mem h90 fun h91 =>
 new [Value.int .i64 v, Value.bool v_48.1, Sl.toV v_48.2.1, Sl.toV v_48.2.2] h91 fun a_17 h92 =>
 (cells? h92 a_13 4 0 = some [Value.bool v_36.1, Sl.toV v_36.2.1, Sl.toV v_36.2.2.1, Sl.toV v_36.2.2.2]) ∧
 mem h92 fun h93 =>
 et v_36 v_47 (false, Sl.nil, Sl.nil, (⟨some a_17, 1, 1⟩ : Sl)) h93 fun v_50 h94 =>
 mem h94 fun h95 =>
 K0u5 v_50 h95
 ) (fun t0u5 h66 =>
 et t0u5 v_35 t0u3 h66 fun v_51 h96 =>
 new [Value.bool v_51.1, Sl.toV v_51.2.1, Sl.toV v_51.2.2.1, Sl.toV v_51.2.2.2] h96 fun a_18 h97 =>
 aG 4 80 s0.1 (⟨some a_18, 1, 1⟩ : Sl) h97 fun v_53 h98 =>
 K0u4 v_53 h98
 )
 )
 ) (fun t0u4 h61 =>
 Let (IntKind.wrap .i64 (s0.2 + 1) : Int) fun i =>
 K0u3 (t0u4, i) h61
 )
 ) (
 new [] h60 fun a_19 h99 =>
 aG 1 8 (⟨some a_19, 0, 0⟩ : Sl) t0.1 h99 fun v_55 h100 =>
 idxS v_55 row 1 fun a_20 =>
 Lift.agT a_20 (Value.int .i64 v) h100 fun h101 =>
 Q ((v_55, s0.1, t0.2.2.1, t0.2.2.2.1, t0.2.2.2.2), 0) h101
 )
 ) (rows, 0) h59
 )
 )
 )
 )
 )
def mF (t0 : Sl × Sl × Sl × Sl × Sl) (h : Heap) (Q : ((Sl × Sl × Sl × Sl × Sl) × Int × Sl) → Heap → Prop) : Prop :=
 mem h fun h0 =>
 loop (fun (s0 : Int) h1 (K0 : Int → Heap → Prop) =>
 seq (fun (K0u1 : Bool → Heap → Prop) =>
 iteB (decide (s0 < (t0.2.2.1.len : Int))) (
 gr t0 s0 h1 fun v h3 =>
 iteB (decide (v < 0)) (
 K0u1 true h3
 ) (
 gX t0 s0 h3 fun v_1 h4 =>
 iteB (!v_1) (
 j6 t0 s0 h4 fun v_2 h5 =>
 K0u1 (!v_2) h5
 ) (
 K0u1 false h4
 )
 )
 ) (
 K0u1 false h1
 )
 ) (fun t0u1 h2 =>
 iteB t0u1 (
 Let (IntKind.wrap .i64 (s0 + 1) : Int) fun v_3 =>
 K0 v_3 h2
 ) (
 iteB (s0 == (t0.2.2.1.len : Int)) (
 Q (t0, 0, Sl.nil) h2
 ) (
 gr t0 s0 h2 fun v_4 h6 =>
 gX t0 s0 h6 fun v_5 h7 =>
 idxS t0.2.2.2.2 s0 7 fun a =>
 aC ai 7 a h7 fun v_6 =>
 mem h7 fun h8 =>
 seq (fun (K0u2 : (Int × Bool × Sl × Sl × Bool × Sl × Sl) → Heap → Prop) =>
 iteB v_5 (
 idxS t0.2.2.2.1 s0 7 fun a_1 =>
 aC ai 7 a_1 h8 fun v_7 =>
 K0u2 v_7 h8
 ) (
 K0u2 v_6 h8
 )
 ) (fun t0u2 h9 =>
 fC h9 fun v_8 h10 =>
 new [Value.int .i64 t0u2.1, Value.bool v_8.1, Sl.toV v_8.2.1, Sl.toV v_8.2.2] h10 fun a_2 h11 =>
 loop (fun (s0u1 : Sl × Int × Sl × Sl × Sl × Sl × Sl × Sl × Sl × Sl × Sl × Sl) h12 (K0u3 : (Sl × Int × Sl × Sl × Sl × Sl × Sl × Sl × Sl × Sl × Sl × Sl) → Heap → Prop) =>
 idxS s0u1.2.2.2.2.2.2.2.2.1 v_4 4 fun a_3 =>
 Lift.load Sl.toV (a_3.add 3) h12 fun v_10 =>
 iteB (decide (s0u1.2.1 < (v_10.len : Int))) (
 idxS s0u1.2.2.2.2.2.2.2.2.1 v_4 4 fun a_4 =>
 Lift.load Sl.toV (a_4.add 3) h12 fun v_11 =>
 idxS v_11 s0u1.2.1 4 fun a_5 =>
 aC aj 4 a_5 h12 fun v_12 =>
 mem h12 fun h13 =>
 dC (v_12.2.1, v_12.2.2.1, v_12.2.2.2) h13 fun v_13 h14 =>
 mem h14 fun h15 =>
 Let ((!(v_5 == v_12.2.1)) : Bool) fun goes =>
 seq (fun (K0u4 : Bool → Heap → Prop) =>
 iteB goes (
 uV (s0u1.2.2.2.2.2.2.2.1, s0u1.2.2.2.2.2.2.2.2.1, s0u1.2.2.2.2.2.2.2.2.2.1, s0u1.2.2.2.2.2.2.2.2.2.2.1, s0u1.2.2.2.2.2.2.2.2.2.2.2) v_12.1 h15 fun v_14 h17 =>
 iteB v_14 (
 K0u4 true h17
 ) (
 iteB (!goes) (
 jf (s0u1.2.2.2.2.2.2.2.1, s0u1.2.2.2.2.2.2.2.2.1, s0u1.2.2.2.2.2.2.2.2.2.1, s0u1.2.2.2.2.2.2.2.2.2.2.1, s0u1.2.2.2.2.2.2.2.2.2.2.2) v_12.1 h17 fun v_15 h18 =>
 K0u4 v_15 h18
 ) (
 K0u4 false h17
 )
 )
 ) (
 iteB (!goes) (
 jf (s0u1.2.2.2.2.2.2.2.1, s0u1.2.2.2.2.2.2.2.2.1, s0u1.2.2.2.2.2.2.2.2.2.1, s0u1.2.2.2.2.2.2.2.2.2.2.1, s0u1.2.2.2.2.2.2.2.2.2.2.2) v_12.1 h15 fun v_16 h19 =>
 K0u4 v_16 h19
 ) (
 K0u4 false h15
 )
 )
 ) (fun t0u3 h16 =>
 iteB t0u3 (
 seq (fun (K0u5 : (Bool × Sl × Sl × Bool × Sl × Sl) → Heap → Prop) =>
 idxS s0u1.2.2.2.2.2.2.2.2.2.1 s0 6 fun a_6 =>
 aC ae 6 a_6 h16 fun v_17 =>
 mem h16 fun h21 =>
 eQ (t0u2.2.1, t0u2.2.2.1, t0u2.2.2.2.1, t0u2.2.2.2.2.1, t0u2.2.2.2.2.2.1, t0u2.2.2.2.2.2.2) h21 fun v_28 h42 =>
 (cells? h42 a_6 6 0 = some [Value.bool v_17.1, Sl.toV v_17.2.1, Sl.toV v_17.2.2.1, Value.bool v_17.2.2.2.1, Sl.toV v_17.2.2.2.2.1, Sl.toV v_17.2.2.2.2.2]) ∧
 mem h42 fun h43 =>
 eQ v_17 h43 fun v_29 h44 =>
 mem h44 fun h45 =>
 qP v_29 h45 fun v_30 h46 =>
 mem h46 fun h47 =>
 iI v_28 v_30 h47 fun v_31 h48 =>
 mem h48 fun h49 =>
 K0u5 v_31 h49
 ) (fun t0u4 h20 =>
 seq (fun (K0u6 : (Bool × Sl × Sl × Bool × Sl × Sl) → Heap → Prop) =>
 idxS s0u1.2.2.2.2.2.2.2.2.2.1 v_12.1 6 fun a_7 =>
 aC ae 6 a_7 h20 fun v_32 =>
 mem h20 fun h51 =>
 eQ v_32 h51 fun v_48 h82 =>
 mem h82 fun h83 =>
 du 1 h83 fun v_49 h84 =>
 mem h84 fun h85 =>
 ky v_49 v_13 h85 fun v_50 h86 =>
 mem h86 fun h87 =>
 gP v_50 t0u4 h87 fun v_51 h88 =>
 mem h88 fun h89 =>
 iI v_48 v_51 h89 fun v_52 h90 =>
 mem h90 fun h91 =>
 K0u6 v_52 h91
 ) (fun t0u5 h50 =>
 ja t0u5 h50 fun v_53 h92 =>
 ex (s0u1.2.2.2.2.2.2.2.1, s0u1.2.2.2.2.2.2.2.2.1, s0u1.2.2.2.2.2.2.2.2.2.1, s0u1.2.2.2.2.2.2.2.2.2.2.1, s0u1.2.2.2.2.2.2.2.2.2.2.2) v_12.1 v_53 h92 fun v_54 h93 =>
 gY (v_54.1.1, v_54.1.2.1, v_54.1.2.2.1, v_54.1.2.2.2.1, v_54.1.2.2.2.2) v_4 v_12.1 h93 fun v_55 h94 =>
 Q ((v_55.1.1, v_55.1.2.1, v_55.1.2.2.1, v_55.1.2.2.2.1, v_55.1.2.2.2.2), 1, Sl.nil) h94
 )
 )
 ) (
 idxS s0u1.2.2.2.2.2.2.2.2.2.2.1 v_12.1 7 fun a_8 =>
 Lift.load (Value.int .i64) (a_8.add 0) h16 fun v_56 =>
 mem h16 fun h95 =>
 seq (fun (K0u7 : (Int × Bool × Sl × Sl) → Heap → Prop) =>
 iteB goes (
 idxS s0u1.2.2.2.2.2.2.2.2.2.2.2 v_12.1 7 fun a_9 =>
 Lift.load (Value.int .i64) (a_9.add 0) h95 fun v_57 =>
 K0u7 (v_57, v_12.2.1, v_12.2.2.1, v_12.2.2.2) h95
 ) (
 K0u7 (v_56, v_12.2.1, v_12.2.2.1, v_12.2.2.2) h95
 )
 ) (fun t0u6 h96 =>
 seq (fun (K0u8 : (Int × Bool × Sl × Sl) → Heap → Prop) =>
 iteB v_12.2.1 (
 d9 v_13 h96 fun v_58 h98 =>
 bq v_58 h98 fun v_59 h99 =>
 K0u8 (t0u6.1, v_59.1, v_59.2.1, v_59.2.2) h99
 ) (
 K0u8 t0u6 h96
 )
 ) (fun t0u7 h97 =>
 new [Value.int .i64 t0u7.1, Value.bool t0u7.2.1, Sl.toV t0u7.2.2.1, Sl.toV t0u7.2.2.2] h97 fun a_10 h100 =>
 aG 4 64 s0u1.1 (⟨some a_10, 1, 1⟩ : Sl) h100 fun v_61 h101 =>
 Let (IntKind.wrap .i64 (s0u1.2.1 + 1) : Int) fun i =>
 K0u3 (v_61, i, s0u1.2.2.1, s0u1.2.2.2.1, s0u1.2.2.2.2.1, s0u1.2.2.2.2.2.1, s0u1.2.2.2.2.2.2.1, s0u1.2.2.2.2.2.2.2.1, s0u1.2.2.2.2.2.2.2.2.1, s0u1.2.2.2.2.2.2.2.2.2.1, s0u1.2.2.2.2.2.2.2.2.2.2.1, s0u1.2.2.2.2.2.2.2.2.2.2.2) h101
 )
 )
 )
 )
 ) (
 Q ((s0u1.2.2.2.2.2.2.2.1, s0u1.2.2.2.2.2.2.2.2.1, s0u1.2.2.2.2.2.2.2.2.2.1, s0u1.2.2.2.2.2.2.2.2.2.2.1, s0u1.2.2.2.2.2.2.2.2.2.2.2), 2, s0u1.1) h12
 )
 ) ((⟨some a_2, 1, 1⟩ : Sl), 0, Sl.nil, Sl.nil, Sl.nil, Sl.nil, Sl.nil, t0.1, t0.2.1, t0.2.2.1, t0.2.2.2.1, t0.2.2.2.2) h11
 )
 )
 )
 )
 ) 0 h0
def iO (x0 : Sl) (h : Heap) (Q : Bool → Heap → Prop) : Prop :=
 aY x0 h fun v h0 =>
 Q ((v.len : Int) == (x0.len : Int)) h0
def ct (x0 : Bool × Sl × Sl) (h : Heap) (Q : Bool → Heap → Prop) : Prop :=
 mem h fun h0 =>
 seq (fun (K0 : Bool → Heap → Prop) =>
 iO x0.2.1 h0 fun v h2 =>
 iteB (!v) (
 K0 true h2
 ) (
 iO x0.2.2 h2 fun v_1 h3 =>
 iteB (!v_1) (
 K0 true h3
 ) (
 dS x0.2.2 h3 fun v_2 h4 =>
 K0 v_2 h4
 )
 )
 ) (fun t0 h1 =>
 iteB t0 (
 Q false h1
 ) (
 iteB ((x0.2.1.len : Int) == 0) (
 seq (fun (K0u1 : Bool → Heap → Prop) =>
 iteB (!x0.1) (
 K0u1 ((x0.2.2.len : Int) == 0) h1
 ) (
 K0u1 false h1
 )
 ) (fun t0u1 h5 =>
 Q t0u1 h5
 )
 ) (
 cV h1 fun v_3 h6 =>
 ck x0 h6 fun v_4 h7 =>
 cQ v_3 x0.2.1 v_4 h7 fun v_5 h8 =>
 dS v_5 h8 fun v_6 h9 =>
 Q v_6 h9
 )
 )
 )
def ij (x0 : Bool × Sl × Sl × Bool × Sl × Sl) (h : Heap) (Q : Bool → Heap → Prop) : Prop :=
 mem h fun h0 =>
 seq (fun (K0 : Bool → Heap → Prop) =>
 ct (x0.1, x0.2.1, x0.2.2.1) h0 fun v h2 =>
 iteB v (
 ct (x0.2.2.2.1, x0.2.2.2.2.1, x0.2.2.2.2.2) h2 fun v_1 h3 =>
 K0 v_1 h3
 ) (
 K0 false h2
 )
 ) (fun t0 h1 =>
 Q t0 h1
 )
def dd (x0 : Bool × Sl × Sl × Bool × Sl × Sl) (c0 : Addr) (h : Heap) (Q : Bool → Heap → Prop) : Prop :=
 mem h fun h0 =>
 Lift.load FnV.toV c0 h0 fun v =>
 dyn (fun (K0 : Bool → Heap → Prop) =>
 (v = FnV.mk 77 [] [] ∧ ij x0 h0 K0)
 ) fun v_1 h1 =>
 Q (!v_1) h1
def aR (s0 : Sl) (f_c : Addr) (h : Heap) (Q : Int → Heap → Prop) : Prop :=
 loop (fun (s0u1 : Int) h0 (K0 : Int → Heap → Prop) =>
 iteB (decide (s0u1 < (s0.len : Int))) (
 idxS s0 s0u1 6 fun a =>
 aC ae 6 a h0 fun v =>
 dd v f_c h0 fun v_1 h1 =>
 iteB v_1 (
 Q s0u1 h1
 ) (
 K0 (IntKind.wrap .i64 (s0u1 + 1)) h1
 )
 ) (
 Q (-1) h0
 )
 ) 0 h
def aw (s0 : Sl) (f_c : Addr) (h : Heap) (Q : Bool → Heap → Prop) : Prop :=
 aR s0 f_c h fun v h0 =>
 Q (decide (v ≥ 0)) h0
def bH (s0 : Sl) (n : Int) (h : Heap) (Q : Sl → Heap → Prop) : Prop :=
 seq (fun (K0 : Unit → Heap → Prop) =>
 iteB (decide (n < 0)) (
 False
 ) (
 K0 () h
 )
 ) (fun t0 h0 =>
 seq (fun (K0u1 : Sl → Heap → Prop) =>
 Let (IntKind.wrap .i64 (n - (IntKind.wrap .i64 ((s0.cap : Int) - (s0.len : Int)))) : Int) fun n_1 =>
 iteB (decide (n_1 > 0)) (
 sliceOf s0 none (some (s0.cap : Int)) none 7 fun v =>
 afw 7 120 [Value.int .i64 0, Value.bool false, Sl.toV Sl.nil, Sl.toV Sl.nil, Value.bool false, Sl.toV Sl.nil, Sl.toV Sl.nil] v n_1 h0 fun v_1 h2 =>
 sliceOf v_1 none (some (s0.len : Int)) none 7 fun v_2 =>
 K0u1 v_2 h2
 ) (
 K0u1 s0 h0
 )
 ) (fun t0u1 h1 =>
 Q t0u1 h1
 )
 )
def bm (slices : Sl) (h : Heap) (Q : Sl → Heap → Prop) : Prop :=
 loop (fun (s0 : Int × Int) h0 (K0 : (Int × Int) → Heap → Prop) =>
 iteB (decide (s0.2 < (slices.len : Int))) (
 seq (fun (K0u1 : Int → Heap → Prop) =>
 idxS slices s0.2 1 fun a =>
 Lift.load Sl.toV a h0 fun v =>
 Let (IntKind.wrap .i64 (s0.1 + (v.len : Int)) : Int) fun size =>
 iteB (decide (size < 0)) (
 False
 ) (
 K0u1 size h0
 )
 ) (fun t0 h1 =>
 K0 (t0, IntKind.wrap .i64 (s0.2 + 1)) h1
 )
 ) (
 bH Sl.nil s0.1 h0 fun v_1 h2 =>
 loop (fun (s0u1 : Sl × Int) h3 (K0u2 : (Sl × Int) → Heap → Prop) =>
 iteB (decide (s0u1.2 < (slices.len : Int))) (
 idxS slices s0u1.2 1 fun a_1 =>
 Lift.load Sl.toV a_1 h3 fun v_2 =>
 aG 7 120 s0u1.1 v_2 h3 fun v_3 h4 =>
 K0u2 (v_3, IntKind.wrap .i64 (s0u1.2 + 1)) h4
 ) (
 Q s0u1.1 h3
 )
 ) (v_1, 0) h2
 )
 ) (0, 0) h
def fJ (x0 : Bool × Sl × Sl × Bool × Sl × Sl) (y : Bool × Sl × Sl × Bool × Sl × Sl) (h : Heap) (Q : Bool → Heap → Prop) : Prop :=
 mem h fun h0 =>
 gB x0 y h0 fun v h1 =>
 Q (v == 0) h1
def iE (e : Int × Bool × Sl × Sl × Bool × Sl × Sl) (h : Heap) (Q : Bool → Heap → Prop) : Prop :=
 mem h fun h0 =>
 iteB (e.1 == 0) (
 seq (fun (K0 : Bool → Heap → Prop) =>
 fJ (e.2.1, e.2.2.1, e.2.2.2.1, e.2.2.2.2.1, e.2.2.2.2.2.1, e.2.2.2.2.2.2) (false, Sl.nil, Sl.nil, false, Sl.nil, Sl.nil) h0 fun v h2 =>
 iteB v (
 K0 ((IntKind.wrap .i64 ((e.2.2.2.1.len : Int) + (e.2.2.2.2.2.2.len : Int))) == 0) h2
 ) (
 K0 false h2
 )
 ) (fun t0 h1 =>
 Q t0 h1
 )
 ) (
 seq (fun (K0u1 : Bool → Heap → Prop) =>
 ct (e.2.1, e.2.2.1, e.2.2.2.1) h0 fun v_1 h4 =>
 iteB v_1 (
 ct (e.2.2.2.2.1, e.2.2.2.2.2.1, e.2.2.2.2.2.2) h4 fun v_2 h5 =>
 K0u1 v_2 h5
 ) (
 K0u1 false h4
 )
 ) (fun t0u1 h3 =>
 Q t0u1 h3
 )
 )
def eJ (e : Int × Bool × Sl × Sl × Bool × Sl × Sl) (h : Heap) (Q : Bool → Heap → Prop) : Prop :=
 mem h fun h0 =>
 iE e h0 fun v h1 =>
 Q (!v) h1
def aV (s0 : Sl) (h : Heap) (Q : Int → Heap → Prop) : Prop :=
 loop (fun (s0u1 : Int) h0 (K0 : Int → Heap → Prop) =>
 iteB (decide (s0u1 < (s0.len : Int))) (
 idxS s0 s0u1 7 fun a =>
 aC ai 7 a h0 fun v =>
 eJ v h0 fun v_1 h1 =>
 iteB v_1 (
 Q s0u1 h1
 ) (
 K0 (IntKind.wrap .i64 (s0u1 + 1)) h1
 )
 ) (
 Q (-1) h0
 )
 ) 0 h
def aB (s0 : Sl) (h : Heap) (Q : Bool → Heap → Prop) : Prop :=
 aV s0 h fun v h0 =>
 Q (decide (v ≥ 0)) h0
def i8 (p : Bool × Sl × Sl × Sl) (h : Heap) (Q : Bool → Heap → Prop) : Prop :=
 mem h fun h0 =>
 loop (fun (s0 : Int × Int) h1 (K0 : (Int × Int) → Heap → Prop) =>
 iteB (decide (s0.2 < (p.2.2.2.len : Int))) (
 idxS p.2.2.2 s0.2 4 fun a =>
 aC aj 4 a h1 fun v =>
 mem h1 fun h2 =>
 seq (fun (K0u1 : Bool → Heap → Prop) =>
 iteB (decide (v.1 ≤ s0.1)) (
 K0u1 true h2
 ) (
 bR (v.2.1, v.2.2.1, v.2.2.2) h2 fun v_1 h4 =>
 iteB (v_1 == 0) (
 K0u1 true h4
 ) (
 ct (v.2.1, v.2.2.1, v.2.2.2) h4 fun v_2 h5 =>
 K0u1 (!v_2) h5
 )
 )
 ) (fun t0 h3 =>
 iteB t0 (
 Q false h3
 ) (
 K0 (v.1, IntKind.wrap .i64 (s0.2 + 1)) h3
 )
 )
 ) (
 ct (p.1, p.2.1, p.2.2.1) h1 fun v_3 h6 =>
 Q v_3 h6
 )
 ) ((-1), 0) h0
def eL (m0 : Int × Bool × Sl × Sl) (c0 : Addr) (c1 : Addr) (h : Heap) (Q : Bool → Heap → Prop) : Prop :=
 mem h fun h0 =>
 seq (fun (K0 : Bool → Heap → Prop) =>
 Lift.load (Value.int .i64) c0 h0 fun v =>
 iteB (decide (m0.1 ≥ v)) (
 K0 true h0
 ) (
 aC aI 5 c1 h0 fun v_1 =>
 dR v_1 m0.1 h0 fun v_2 h2 =>
 K0 (decide (v_2 ≥ 0)) h2
 )
 ) (fun t0 h1 =>
 Q t0 h1
 )
def aU (s0 : Sl) (f_c : Addr) (f_c_1 : Addr) (h : Heap) (Q : Int → Heap → Prop) : Prop :=
 loop (fun (s0u1 : Int) h0 (K0 : Int → Heap → Prop) =>
 iteB (decide (s0u1 < (s0.len : Int))) (
 idxS s0 s0u1 4 fun a =>
 aC aj 4 a h0 fun v =>
 eL v f_c f_c_1 h0 fun v_1 h1 =>
 iteB v_1 (
 Q s0u1 h1
 ) (
 K0 (IntKind.wrap .i64 (s0u1 + 1)) h1
 )
 ) (
 Q (-1) h0
 )
 ) 0 h
def aA (s0 : Sl) (f_c : Addr) (f_c_1 : Addr) (h : Heap) (Q : Bool → Heap → Prop) : Prop :=
 aU s0 f_c f_c_1 h fun v h0 =>
 Q (decide (v ≥ 0)) h0
def gR (b : (Option Addr)) (p : Bool × Sl × Sl × Sl) (values : Sl) (h : Heap) (Q : (Bool × Sl × Sl × Bool × Sl × Sl) → Heap → Prop) : Prop :=
 mem h fun h0 =>
 loop (fun (s0 : Int × Bool × Sl × Sl × Bool × Sl × Sl) h1 (K0 : (Int × Bool × Sl × Sl × Bool × Sl × Sl) → Heap → Prop) =>
 iteB (decide (s0.1 < (p.2.2.2.len : Int))) (
 idxS p.2.2.2 s0.1 4 fun a =>
 aC aj 4 a h1 fun v =>
 mem h1 fun h2 =>
 idxS values v.1 6 fun a_1 =>
 aC ae 6 a_1 h2 fun v_1 =>
 fo b (v.2.1, v.2.2.1, v.2.2.2) v_1 h2 fun v_2 h3 =>
 iF b (s0.2.1, s0.2.2.1, s0.2.2.2.1, s0.2.2.2.2.1, s0.2.2.2.2.2.1, s0.2.2.2.2.2.2) v_2 h3 fun v_3 h4 =>
 K0 (IntKind.wrap .i64 (s0.1 + 1), v_3.1, v_3.2.1, v_3.2.2.1, v_3.2.2.2.1, v_3.2.2.2.2.1, v_3.2.2.2.2.2) h4
 ) (
 Q (s0.2.1, s0.2.2.1, s0.2.2.2.1, s0.2.2.2.2.1, s0.2.2.2.2.2.1, s0.2.2.2.2.2.2) h1
 )
 ) (0, false, Sl.nil, Sl.nil, false, Sl.nil, Sl.nil) h0
def ia (t0 : Sl × Sl × Sl × Sl × Sl) (h : Heap) (Q : Bool → Heap → Prop) : Prop :=
 new [Sl.toV t0.1, Sl.toV t0.2.1, Sl.toV t0.2.2.1, Sl.toV t0.2.2.2.1, Sl.toV t0.2.2.2.2] h fun t0u1 h0 =>
 Lift.load Sl.toV (t0u1.add 2) h0 fun v =>
 new [Value.int .i64 0] h0 fun n h1 =>
 Lift.agT n (Value.int .i64 (v.len : Int)) h1 fun h2 =>
 seq (fun (K0 : Bool → Heap → Prop) =>
 Lift.load Sl.toV (t0u1.add 0) h2 fun v_1 =>
 Lift.load Sl.toV (t0u1.add 1) h2 fun v_2 =>
 iteB ((v_1.len : Int) != (v_2.len : Int)) (
 K0 true h2
 ) (
 Lift.load Sl.toV (t0u1.add 3) h2 fun v_3 =>
 Lift.load (Value.int .i64) n h2 fun v_4 =>
 iteB ((v_3.len : Int) != v_4) (
 K0 true h2
 ) (
 Lift.load Sl.toV (t0u1.add 4) h2 fun v_5 =>
 Lift.load (Value.int .i64) n h2 fun v_6 =>
 K0 ((v_5.len : Int) != v_6) h2
 )
 )
 ) (fun t0u2 h3 =>
 iteB t0u2 (
 Q false h3
 ) (
 Lift.load Sl.toV (t0u1.add 0) h3 fun v_7 =>
 loop (fun (s0 : Int) h4 (K0u1 : Int → Heap → Prop) =>
 iteB (decide (s0 < (v_7.len : Int))) (
 idxS v_7 s0 1 fun a =>
 Lift.load (Value.int .i64) a h4 fun v_8 =>
 seq (fun (K0u2 : Bool → Heap → Prop) =>
 iteB (decide (v_8 < 0)) (
 K0u2 true h4
 ) (
 Lift.load (Value.int .i64) n h4 fun v_9 =>
 iteB (decide (v_8 ≥ v_9)) (
 K0u2 true h4
 ) (
 aC aI 5 t0u1 h4 fun v_10 =>
 dR v_10 v_8 h4 fun v_11 h6 =>
 K0u2 (v_11 != s0) h6
 )
 )
 ) (fun t0u3 h5 =>
 iteB t0u3 (
 Q false h5
 ) (
 K0u1 (IntKind.wrap .i64 (s0 + 1)) h5
 )
 )
 ) (
 new [Value.nilFunc] h4 fun number h7 =>
 Lift.agT number (FnV.toV (FnV.mk 77 [] [])) h7 fun h8 =>
 seq (fun (K0u3 : Bool → Heap → Prop) =>
 Lift.load Sl.toV (t0u1.add 2) h8 fun v_12 =>
 aw v_12 number h8 fun v_13 h10 =>
 iteB v_13 (
 K0u3 true h10
 ) (
 Lift.load Sl.toV (t0u1.add 3) h10 fun v_14 =>
 Lift.load Sl.toV (t0u1.add 4) h10 fun v_15 =>
 new [Sl.toV v_14, Sl.toV v_15] h10 fun a_1 h11 =>
 bm (⟨some a_1, 2, 2⟩ : Sl) h11 fun v_17 h12 =>
 aB v_17 h12 fun v_18 h13 =>
 K0u3 v_18 h13
 )
 ) (fun t0u4 h9 =>
 iteB t0u4 (
 Q false h9
 ) (
 mf 1048576 h9 fun v_19 h14 =>
 Lift.load Sl.toV (t0u1.add 1) h14 fun v_20 =>
 loop (fun (s0u1 : Int) h15 (K0u4 : Int → Heap → Prop) =>
 iteB (decide (s0u1 < (v_20.len : Int))) (
 idxS v_20 s0u1 4 fun a_2 =>
 aC am 4 a_2 h15 fun v_21 =>
 mem h15 fun h16 =>
 seq (fun (K0u5 : Bool → Heap → Prop) =>
 i8 v_21 h16 fun v_22 h18 =>
 iteB (!v_22) (
 K0u5 true h18
 ) (
 bR (v_21.1, v_21.2.1, v_21.2.2.1) h18 fun v_23 h19 =>
 iteB (v_23 != 0) (
 K0u5 true h19
 ) (
 aA v_21.2.2.2 n t0u1 h19 fun v_24 h20 =>
 iteB v_24 (
 K0u5 true h20
 ) (
 Lift.load Sl.toV (t0u1.add 2) h20 fun v_25 =>
 Lift.load Sl.toV (t0u1.add 2) h20 fun v_26 =>
 Lift.load Sl.toV (t0u1.add 0) h20 fun v_27 =>
 idxS v_27 s0u1 1 fun a_3 =>
 Lift.load (Value.int .i64) a_3 h20 fun v_28 =>
 idxS v_26 v_28 6 fun a_4 =>
 aC ae 6 a_4 h20 fun v_29 =>
 gR v_19 v_21 v_25 h20 fun v_30 h21 =>
 (cell? h21 (t0u1.add 2) = some (Sl.toV v_26)) ∧
 (cell? h21 (t0u1.add 0) = some (Sl.toV v_27)) ∧
 (cell? h21 a_3 = some (Value.int .i64 v_28)) ∧
 (cells? h21 a_4 6 0 = some [Value.bool v_29.1, Sl.toV v_29.2.1, Sl.toV v_29.2.2.1, Value.bool v_29.2.2.2.1, Sl.toV v_29.2.2.2.2.1, Sl.toV v_29.2.2.2.2.2]) ∧
 fJ v_30 v_29 h21 fun v_31 h22 =>
 K0u5 (!v_31) h22
 )
 )
 )
 ) (fun t0u5 h17 =>
 iteB t0u5 (
 Q false h17
 ) (
 K0u4 (IntKind.wrap .i64 (s0u1 + 1)) h17
 )
 )
 ) (
 Q true h15
 )
 ) 0 h14
 )
 )
 )
 ) 0 h3
 )
 )
def dQ (reals : Int) (rows : Sl) (acts : Sl) (h : Heap) (Q : Bool → Heap → Prop) : Prop :=
 dZ h fun v h0 =>
 iteB (!v) (
 Q false h0
 ) (
 ro reals rows acts h0 fun v_1 h1 =>
 iteB v_1 (
 Q true h1
 ) (
 mem h1 fun h2 =>
 mf 60 h2 fun v_2 h3 =>
 seq (fun (K0 : (Addr × Sl × Sl × Sl × Sl × Sl) → Heap → Prop) =>
 mem h3 fun h5 =>
 (
 fD (0, reals, rows, Sl.nil, Sl.nil, Sl.nil, Sl.nil) h5 fun v_14 h49 =>
 mem h49 fun h50 =>
 (
 iN (0, reals, rows, Sl.nil, Sl.nil, Sl.nil, Sl.nil) h50 fun v_15 h51 =>
 mem h51 fun h52 =>
 new [Sl.toV Sl.nil, Sl.toV Sl.nil, Sl.toV Sl.nil, Sl.toV Sl.nil, Sl.toV Sl.nil] h52 fun t0u7 h53 =>
 mem h53 fun h54 =>
 da t0u7 [Sl.toV v_14.1, Sl.toV v_14.2.1, Sl.toV v_14.2.2.1, Sl.toV v_14.2.2.2.1, Sl.toV v_14.2.2.2.2] h54 fun h55 =>
 K0 (t0u7, v_15.1, v_15.2.1, v_15.2.2.1, v_15.2.2.2.1, v_15.2.2.2.2) h55
 ) ∧ (
 new [Sl.toV Sl.nil, Sl.toV Sl.nil, Sl.toV Sl.nil, Sl.toV Sl.nil, Sl.toV Sl.nil] h50 fun t0u8 h56 =>
 mem h56 fun h57 =>
 iN (0, reals, rows, Sl.nil, Sl.nil, Sl.nil, Sl.nil) h57 fun v_16 h58 =>
 mem h58 fun h59 =>
 da t0u8 [Sl.toV v_14.1, Sl.toV v_14.2.1, Sl.toV v_14.2.2.1, Sl.toV v_14.2.2.2.1, Sl.toV v_14.2.2.2.2] h59 fun h60 =>
 K0 (t0u8, v_16.1, v_16.2.1, v_16.2.2.1, v_16.2.2.2.1, v_16.2.2.2.2) h60
 )
 ) ∧ (
 new [Sl.toV Sl.nil, Sl.toV Sl.nil, Sl.toV Sl.nil, Sl.toV Sl.nil, Sl.toV Sl.nil] h5 fun t0u9 h61 =>
 mem h61 fun h62 =>
 fD (0, reals, rows, Sl.nil, Sl.nil, Sl.nil, Sl.nil) h62 fun v_17 h63 =>
 mem h63 fun h64 =>
 iN (0, reals, rows, Sl.nil, Sl.nil, Sl.nil, Sl.nil) h64 fun v_18 h65 =>
 mem h65 fun h66 =>
 da t0u9 [Sl.toV v_17.1, Sl.toV v_17.2.1, Sl.toV v_17.2.2.1, Sl.toV v_17.2.2.2.1, Sl.toV v_17.2.2.2.2] h66 fun h67 =>
 K0 (t0u9, v_18.1, v_18.2.1, v_18.2.2.1, v_18.2.2.2.1, v_18.2.2.2.2) h67
 )
 ) (fun t0 h4 =>
 loop (fun (s0 : Int × Sl × Sl × Sl × Sl × Sl) h68 (K0u1 : (Int × Sl × Sl × Sl × Sl × Sl) → Heap → Prop) =>
 iteB (decide (s0.1 < (acts.len : Int))) (
 seq (fun (K0u2 : (Sl × Sl × Sl × Sl × Sl) → Heap → Prop) =>
 idxS acts s0.1 10 fun a =>
 aC aE 10 a h68 fun v_19 =>
 mem h68 fun h70 =>
 iteB (!v_19.1) (
 cU v_2 (some t0.1) v_19.2.1 v_19.2.2.2.1 (v_19.2.2.1, v_19.2.2.2.2.1, v_19.2.2.2.2.2.1, v_19.2.2.2.2.2.2.1, v_19.2.2.2.2.2.2.2.1, v_19.2.2.2.2.2.2.2.2.1, v_19.2.2.2.2.2.2.2.2.2) h70 fun v_20 h71 =>
 aW v_2 h71 fun v_21 h72 =>
 iteB v_21 (
 seq (fun (K0u3 : Bool → Heap → Prop) =>
 iteB (v_20.2 == 6) (
 K0u3 ((v_20.1.len : Int) == 0) h72
 ) (
 K0u3 false h72
 )
 ) (fun t0u11 h73 =>
 Q t0u11 h73
 )
 ) (
 kf (s0.2.1, s0.2.2.1, s0.2.2.2.1, s0.2.2.2.2.1, s0.2.2.2.2.2) v_19.2.1 v_19.2.2.2.1 (v_19.2.2.1, v_19.2.2.2.2.1, v_19.2.2.2.2.2.1, v_19.2.2.2.2.2.2.1, v_19.2.2.2.2.2.2.2.1, v_19.2.2.2.2.2.2.2.2.1, v_19.2.2.2.2.2.2.2.2.2) h72 fun v_22 h74 =>
 mem h74 fun h75 =>
 seq (fun (K0u4 : Bool → Heap → Prop) =>
 iteB (v_20.2 != v_22.2.2) (
 K0u4 true h75
 ) (
 jp v_20.1 v_22.2.1 h75 fun v_23 h77 =>
 iteB (!v_23) (
 K0u4 true h77
 ) (
 aC aI 5 t0.1 h77 fun v_24 =>
 jh v_24 (v_22.1.1, v_22.1.2.1, v_22.1.2.2.1, v_22.1.2.2.2.1, v_22.1.2.2.2.2) h77 fun v_25 h78 =>
 K0u4 (!v_25) h78
 )
 )
 ) (fun t0u12 h76 =>
 iteB t0u12 (
 Q false h76
 ) (
 K0u2 (v_22.1.1, v_22.1.2.1, v_22.1.2.2.1, v_22.1.2.2.2.1, v_22.1.2.2.2.2) h76
 )
 )
 )
 ) (
 loop (fun (s0u1 : Int × Sl × Sl × Sl × Sl × Sl) h79 (K0u5 : (Int × Sl × Sl × Sl × Sl × Sl) → Heap → Prop) =>
 iteB (decide (s0u1.1 < 60)) (
 fR v_2 (some t0.1) h79 fun v_26 h80 =>
 aW v_2 h80 fun v_27 h81 =>
 iteB v_27 (
 seq (fun (K0u6 : Bool → Heap → Prop) =>
 iteB (v_26.2.2 == 6) (
 K0u6 ((v_26.2.1.len : Int) == 0) h81
 ) (
 K0u6 false h81
 )
 ) (fun t0u13 h82 =>
 Q t0u13 h82
 )
 ) (
 mF (s0u1.2.1, s0u1.2.2.1, s0u1.2.2.2.1, s0u1.2.2.2.2.1, s0u1.2.2.2.2.2) h81 fun v_28 h83 =>
 mem h83 fun h84 =>
 seq (fun (K0u7 : Bool → Heap → Prop) =>
 iteB (v_26.2.2 != 0) (
 K0u7 true h84
 ) (
 iteB (v_26.1 != v_28.2.1) (
 K0u7 true h84
 ) (
 jp v_26.2.1 v_28.2.2 h84 fun v_29 h86 =>
 iteB (!v_29) (
 K0u7 true h86
 ) (
 aC aI 5 t0.1 h86 fun v_30 =>
 jh v_30 (v_28.1.1, v_28.1.2.1, v_28.1.2.2.1, v_28.1.2.2.2.1, v_28.1.2.2.2.2) h86 fun v_31 h87 =>
 K0u7 (!v_31) h87
 )
 )
 )
 ) (fun t0u14 h85 =>
 iteB t0u14 (
 Q false h85
 ) (
 iteB (v_26.1 != 1) (
 K0u2 (v_28.1.1, v_28.1.2.1, v_28.1.2.2.1, v_28.1.2.2.2.1, v_28.1.2.2.2.2) h85
 ) (
 Let (IntKind.wrap .i64 (s0u1.1 + 1) : Int) fun i =>
 K0u5 (i, v_28.1.1, v_28.1.2.1, v_28.1.2.2.1, v_28.1.2.2.2.1, v_28.1.2.2.2.2) h85
 )
 )
 )
 )
 ) (
 K0u2 (s0u1.2.1, s0u1.2.2.1, s0u1.2.2.2.1, s0u1.2.2.2.2.1, s0u1.2.2.2.2.2) h79
 )
 ) (0, s0.2.1, s0.2.2.1, s0.2.2.2.1, s0.2.2.2.2.1, s0.2.2.2.2.2) h70
 )
 ) (fun t0u10 h69 =>
 K0u1 (IntKind.wrap .i64 (s0.1 + 1), t0u10.1, t0u10.2.1, t0u10.2.2.1, t0u10.2.2.2.1, t0u10.2.2.2.2) h69
 )
 ) (
 aC aI 5 t0.1 h68 fun v_32 =>
 ia v_32 h68 fun v_33 h88 =>
 Q v_33 h88
 )
 ) (0, t0.2.1, t0.2.2.1, t0.2.2.2.1, t0.2.2.2.2.1, t0.2.2.2.2.2) h4
 )
 )
 )
end Go.Sh

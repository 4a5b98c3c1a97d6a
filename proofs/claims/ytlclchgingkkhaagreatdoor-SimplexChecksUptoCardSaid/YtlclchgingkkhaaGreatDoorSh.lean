/-
  Laws that the proof of this claim's statement leans on, each proved under the conditions that it states.
-/
import Derived.Test.YtlclchgingkkhaaGreatDoorFwC
set_option linter.unusedVariables false
set_option linter.unusedSimpArgs false
namespace Go.Sh
open Go Go.Lift
def ay (x : Bool × Int × Int × Bool × Bool × Sl × Sl × Bool × Sl × Sl) : List Value := [Value.bool x.1, Value.int .i64 x.2.1, Value.int .i64 x.2.2.1, Value.bool x.2.2.2.1, Value.bool x.2.2.2.2.1, Sl.toV x.2.2.2.2.2.1, Sl.toV x.2.2.2.2.2.2.1, Value.bool x.2.2.2.2.2.2.2.1, Sl.toV x.2.2.2.2.2.2.2.2.1, Sl.toV x.2.2.2.2.2.2.2.2.2]
def acV (x : Bool × Sl) : List Value := [Value.bool x.1, Sl.toV x.2]
def aA (x : Bool × Sl × Sl) : List Value := [Value.bool x.1, Sl.toV x.2.1, Sl.toV x.2.2]
def aa (x : Bool × Sl × Sl × Bool × Sl × Sl) : List Value := [Value.bool x.1, Sl.toV x.2.1, Sl.toV x.2.2.1, Value.bool x.2.2.2.1, Sl.toV x.2.2.2.2.1, Sl.toV x.2.2.2.2.2]
def ah (x : Bool × Sl × Sl × Sl) : List Value := [Value.bool x.1, Sl.toV x.2.1, Sl.toV x.2.2.1, Sl.toV x.2.2.2]
def ai (x : Int × Bool × Sl × Sl) : List Value := [Value.int .i64 x.1, Value.bool x.2.1, Sl.toV x.2.2.1, Sl.toV x.2.2.2]
def ao (x : Int × Bool × Sl × Sl × Bool × Sl × Sl) : List Value := [Value.int .i64 x.1, Value.bool x.2.1, Sl.toV x.2.2.1, Sl.toV x.2.2.2.1, Value.bool x.2.2.2.2.1, Sl.toV x.2.2.2.2.2.1, Sl.toV x.2.2.2.2.2.2]
def pe (x : Int × Int × Sl × Sl × Sl × Sl × Sl) : List Value := [Value.int .i64 x.1, Value.int .i64 x.2.1, Sl.toV x.2.2.1, Sl.toV x.2.2.2.1, Sl.toV x.2.2.2.2.1, Sl.toV x.2.2.2.2.2.1, Sl.toV x.2.2.2.2.2.2]
def adu (x : Sl × Int) : List Value := [Sl.toV x.1, Value.int .i64 x.2]
def aC (x : Sl × Sl × Sl × Sl × Sl) : List Value := [Sl.toV x.1, Sl.toV x.2.1, Sl.toV x.2.2.1, Sl.toV x.2.2.2.1, Sl.toV x.2.2.2.2]
abbrev am : Nat := 0
def aM (x0 : Sl) (h : Heap) (Q : Sl → Heap → Prop) : Prop :=
 loop (fun (s0 : Sl) h0 (K0 : Sl → Heap → Prop) =>
 seq (fun (K0u1 : Bool → Heap → Prop) =>
 iteB (decide ((s0.len : Int) > 0)) (
 idxS s0 (IntKind.wrap .i64 ((s0.len : Int) - 1)) 1 fun a =>
 Lift.load (Value.int .u32) a h0 fun v =>
 K0u1 (v == 0) h0
 ) (
 K0u1 false h0
 )
 ) (fun t0 h1 =>
 iteB t0 (
 sliceOf s0 none (some (IntKind.wrap .i64 ((s0.len : Int) - 1))) none 1 fun v_1 =>
 K0 v_1 h1
 ) (
 Q s0 h1
 )
 )
 ) x0 h
def jm (n : Int) (h : Heap) (Q : Sl → Heap → Prop) : Prop :=
 new [Value.int .u32 (IntKind.wrap .u32 n), Value.int .u32 (IntKind.wrap .u32 (Int.fdiv n (2 ^ (min (Int.toNat 32) (IntKind.bits .u64)))))] h fun a h0 =>
 aM (⟨some a, 2, 2⟩ : Sl) h0 fun v_1 h1 =>
 Q v_1 h1
def cr (n : Int) (h : Heap) (Q : (Bool × Sl × Sl) → Heap → Prop) : Prop :=
 mem h fun h0 =>
 Let (IntKind.wrap .u64 n : Int) fun size =>
 seq (fun (K0 : Int → Heap → Prop) =>
 iteB (decide (n < 0)) (
 Let (IntKind.wrap .u64 (0 - size) : Int) fun size_1 =>
 K0 size_1 h0
 ) (
 K0 size h0
 )
 ) (fun t0 h1 =>
 jm t0 h1 fun v h2 =>
 Q (decide (n < 0), v, Sl.nil) h2
 )
def aL (s0 : Sl) (h : Heap) (Q : Sl → Heap → Prop) : Prop :=
 iteB s0.a.isNone (
 Q Sl.nil h
 ) (
 new [] h fun a h0 =>
 aK 4 80 (⟨some a, 0, 0⟩ : Sl) s0 h0 fun v_1 h1 =>
 Q v_1 h1
 )
def fC (p : Int × Int × Sl × Sl × Sl × Sl × Sl) (h : Heap) (Q : (Sl × Sl × Sl × Sl × Sl) → Heap → Prop) : Prop :=
 mem h fun h0 =>
 Let (IntKind.wrap .i64 (p.2.1 + (p.2.2.1.len : Int)) : Int) fun n =>
 loop (fun (s0 : Int × Sl × Sl × Sl × Sl × Sl) h1 (K0 : (Int × Sl × Sl × Sl × Sl × Sl) → Heap → Prop) =>
 iteB (decide (s0.1 < (p.2.2.1.len : Int))) (
 new [Value.int .i64 (IntKind.wrap .i64 (p.2.1 + s0.1))] h1 fun a h2 =>
 aK 1 8 s0.2.1 (⟨some a, 1, 1⟩ : Sl) h2 fun v_1 h3 =>
 K0 (IntKind.wrap .i64 (s0.1 + 1), v_1, s0.2.2.1, s0.2.2.2.1, s0.2.2.2.2.1, s0.2.2.2.2.2) h3
 ) (
 aL p.2.2.1 h1 fun v_2 h4 =>
 seq (fun (K0u1 : (Sl × Sl × Sl × Sl × Sl) → Heap → Prop) =>
 (
 mkS [Value.bool false, Sl.toV Sl.nil, Sl.toV Sl.nil, Value.bool false, Sl.toV Sl.nil, Sl.toV Sl.nil] 112 n n h4 fun v_3 h6 =>
 (
 mkS [Value.int .i64 0, Value.bool false, Sl.toV Sl.nil, Sl.toV Sl.nil, Value.bool false, Sl.toV Sl.nil, Sl.toV Sl.nil] 120 n n h6 fun v_11 h14 =>
 mkS [Value.int .i64 0, Value.bool false, Sl.toV Sl.nil, Sl.toV Sl.nil, Value.bool false, Sl.toV Sl.nil, Sl.toV Sl.nil] 120 n n h14 fun v_13 h16 =>
 K0u1 (s0.2.1, v_2, v_3, v_11, v_13) h16
 ) ∧ (
 mkS [Value.int .i64 0, Value.bool false, Sl.toV Sl.nil, Sl.toV Sl.nil, Value.bool false, Sl.toV Sl.nil, Sl.toV Sl.nil] 120 n n h6 fun v_14 h17 =>
 mkS [Value.int .i64 0, Value.bool false, Sl.toV Sl.nil, Sl.toV Sl.nil, Value.bool false, Sl.toV Sl.nil, Sl.toV Sl.nil] 120 n n h17 fun v_15 h18 =>
 K0u1 (s0.2.1, v_2, v_3, v_15, v_14) h18
 )
 ) ∧ (
 mkS [Value.int .i64 0, Value.bool false, Sl.toV Sl.nil, Sl.toV Sl.nil, Value.bool false, Sl.toV Sl.nil, Sl.toV Sl.nil] 120 n n h4 fun v_16 h19 =>
 (
 mkS [Value.bool false, Sl.toV Sl.nil, Sl.toV Sl.nil, Value.bool false, Sl.toV Sl.nil, Sl.toV Sl.nil] 112 n n h19 fun v_17 h20 =>
 mkS [Value.int .i64 0, Value.bool false, Sl.toV Sl.nil, Sl.toV Sl.nil, Value.bool false, Sl.toV Sl.nil, Sl.toV Sl.nil] 120 n n h20 fun v_20 h23 =>
 K0u1 (s0.2.1, v_2, v_17, v_16, v_20) h23
 ) ∧ (
 mkS [Value.int .i64 0, Value.bool false, Sl.toV Sl.nil, Sl.toV Sl.nil, Value.bool false, Sl.toV Sl.nil, Sl.toV Sl.nil] 120 n n h19 fun v_21 h24 =>
 mkS [Value.bool false, Sl.toV Sl.nil, Sl.toV Sl.nil, Value.bool false, Sl.toV Sl.nil, Sl.toV Sl.nil] 112 n n h24 fun v_22 h25 =>
 K0u1 (s0.2.1, v_2, v_22, v_16, v_21) h25
 )
 ) ∧ (
 mkS [Value.int .i64 0, Value.bool false, Sl.toV Sl.nil, Sl.toV Sl.nil, Value.bool false, Sl.toV Sl.nil, Sl.toV Sl.nil] 120 n n h4 fun v_23 h26 =>
 (
 mkS [Value.bool false, Sl.toV Sl.nil, Sl.toV Sl.nil, Value.bool false, Sl.toV Sl.nil, Sl.toV Sl.nil] 112 n n h26 fun v_24 h27 =>
 mkS [Value.int .i64 0, Value.bool false, Sl.toV Sl.nil, Sl.toV Sl.nil, Value.bool false, Sl.toV Sl.nil, Sl.toV Sl.nil] 120 n n h27 fun v_26 h29 =>
 K0u1 (s0.2.1, v_2, v_24, v_26, v_23) h29
 ) ∧ (
 mkS [Value.int .i64 0, Value.bool false, Sl.toV Sl.nil, Sl.toV Sl.nil, Value.bool false, Sl.toV Sl.nil, Sl.toV Sl.nil] 120 n n h26 fun v_27 h30 =>
 mkS [Value.bool false, Sl.toV Sl.nil, Sl.toV Sl.nil, Value.bool false, Sl.toV Sl.nil, Sl.toV Sl.nil] 112 n n h30 fun v_28 h31 =>
 K0u1 (s0.2.1, v_2, v_28, v_27, v_23) h31
 )
 )
 ) (fun t0 h5 =>
 Q t0 h5
 )
 )
 ) (0, Sl.nil, Sl.nil, Sl.nil, Sl.nil, Sl.nil) h0
def mN (limbs : Int) (h : Heap) (Q : ((Option Addr)) → Heap → Prop) : Prop :=
 new [Value.int .i64 (if 1 > limbs then 1 else limbs), Value.bool false] h fun a h0 =>
 Q (some a) h0
def js (n : Int) (h : Heap) (Q : (Bool × Sl × Sl × Bool × Sl × Sl) → Heap → Prop) : Prop :=
 mem h fun h0 =>
 cr n h0 fun v h1 =>
 Q (v.1, v.2.1, v.2.2, false, Sl.nil, Sl.nil) h1
def bU (t0 : (Option Addr)) (upper : Bool) (h : Heap) (Q : (Sl × Int) → Heap → Prop) : Prop :=
 mem h fun h0 =>
 iteB upper (
 aJ t0 fun a =>
 Lift.load Sl.toV (a.add 4) h0 fun v =>
 Q (v, 1) h0
 ) (
 aJ t0 fun a_1 =>
 Lift.load Sl.toV (a_1.add 3) h0 fun v_1 =>
 Q (v_1, (-1)) h0
 )
def jz (h : Heap) (Q : Sl → Heap → Prop) : Prop :=
 new [Value.int .u32 1] h fun a h0 =>
 Q (⟨some a, 1, 1⟩ : Sl) h0
def bM (x0 : Bool × Sl × Sl) (h : Heap) (Q : Sl → Heap → Prop) : Prop :=
 mem h fun h0 =>
 iteB ((x0.2.2.len : Int) == 0) (
 jz h0 fun v h1 =>
 Q v h1
 ) (
 Q x0.2.2 h0
 )
def cg (h : Heap) (Q : ((Option Addr)) → Heap → Prop) : Prop :=
 mN 16777216 h fun v h0 =>
 Q v h0
def gt (x0 : Sl) (y : Sl) (h : Heap) (Q : Sl → Heap → Prop) : Prop :=
 Let (IntKind.wrap .i64 ((x0.len : Int) + (y.len : Int)) : Int) fun t15 =>
 mkS [Value.int .u32 0] 4 t15 t15 h fun v h0 =>
 loop (fun (s0 : Int) h1 (K0 : Int → Heap → Prop) =>
 iteB (decide (s0 < (x0.len : Int))) (
 idxS x0 s0 1 fun a =>
 Lift.load (Value.int .u32) a h1 fun v_1 =>
 loop (fun (s0u1 : Int × Int) h2 (K0u1 : (Int × Int) → Heap → Prop) =>
 iteB (decide (s0u1.2 < (y.len : Int))) (
 idxS y s0u1.2 1 fun a_1 =>
 Lift.load (Value.int .u32) a_1 h2 fun v_2 =>
 idxS v (IntKind.wrap .i64 (s0 + s0u1.2)) 1 fun a_2 =>
 Lift.load (Value.int .u32) a_2 h2 fun v_3 =>
 Let (IntKind.wrap .u64 (s0u1.1 + (IntKind.wrap .u64 ((IntKind.wrap .u64 ((IntKind.wrap .u64 v_1) * (IntKind.wrap .u64 v_2))) + (IntKind.wrap .u64 v_3)))) : Int) fun carry =>
 idxS v (IntKind.wrap .i64 (s0 + s0u1.2)) 1 fun a_3 =>
 Lift.ady a_3 (Value.int .u32 (IntKind.wrap .u32 carry)) h2 fun h3 =>
 Let (Int.fdiv carry (2 ^ (min (Int.toNat 32) (IntKind.bits .u64))) : Int) fun carry_1 =>
 K0u1 (carry_1, IntKind.wrap .i64 (s0u1.2 + 1)) h3
 ) (
 idxS v (IntKind.wrap .i64 (s0 + (y.len : Int))) 1 fun a_4 =>
 Lift.ady a_4 (Value.int .u32 (IntKind.wrap .u32 s0u1.1)) h2 fun h4 =>
 K0 (IntKind.wrap .i64 (s0 + 1)) h4
 )
 ) (0, 0) h1
 ) (
 Q v h1
 )
 ) 0 h0
def ar (s0 : Sl) (h : Heap) (Q : Sl → Heap → Prop) : Prop :=
 iteB s0.a.isNone (
 Q Sl.nil h
 ) (
 new [] h fun a h0 =>
 aK 1 4 (⟨some a, 0, 0⟩ : Sl) s0 h0 fun v_1 h1 =>
 Q v_1 h1
 )
def aX (b : (Option Addr)) (x0 : Sl) (h : Heap) (Q : Sl → Heap → Prop) : Prop :=
 aM x0 h fun v h0 =>
 seq (fun (K0 : Unit → Heap → Prop) =>
 aJ b fun a =>
 Lift.load Value.bool (a.add 1) h0 fun v_1 =>
 iteB v_1 (
 aJ b fun a_1 =>
 Lift.ady (a_1.add 1) (Value.bool true) h0 fun h2 =>
 K0 () h2
 ) (
 aJ b fun a_2 =>
 Lift.load (Value.int .i64) (a_2.add 0) h0 fun v_2 =>
 aJ b fun a_3 =>
 Lift.ady (a_3.add 1) (Value.bool (decide ((v.len : Int) > v_2))) h0 fun h3 =>
 K0 () h3
 )
 ) (fun t0 h1 =>
 aJ b fun a_4 =>
 Lift.load Value.bool (a_4.add 1) h1 fun v_3 =>
 iteB v_3 (
 Q Sl.nil h1
 ) (
 ar v h1 fun v_4 h4 =>
 Q v_4 h4
 )
 )
def aR (b : (Option Addr)) (x0 : Sl) (y : Sl) (h : Heap) (Q : Sl → Heap → Prop) : Prop :=
 aM x0 h fun v h0 =>
 aM y h0 fun v_1 h1 =>
 gt v v_1 h1 fun v_2 h2 =>
 aX b v_2 h2 fun v_3 h3 =>
 Q v_3 h3
def gT (x0 : Bool × Sl) (n : Sl) (h : Heap) (Q : (Bool × Sl) → Heap → Prop) : Prop :=
 mem h fun h0 =>
 cg h0 fun v h1 =>
 aR v x0.2 n h1 fun v_1 h2 =>
 Q (x0.1, v_1) h2
def fv (x0 : Bool × Sl × Sl) (y : Bool × Sl × Sl) (h : Heap) (Q : ((Bool × Sl) × (Bool × Sl)) → Heap → Prop) : Prop :=
 mem h fun h0 =>
 bM y h0 fun v h1 =>
 gT (x0.1, x0.2.1) v h1 fun v_1 h2 =>
 bM x0 h2 fun v_2 h3 =>
 gT (y.1, y.2.1) v_2 h3 fun v_3 h4 =>
 Q (v_1, v_3) h4
def gO (x0 : Sl) (y : Sl) (h : Heap) (Q : Sl → Heap → Prop) : Prop :=
 loop (fun (s0 : Sl × Int × Int) h0 (K0 : (Sl × Int × Int) → Heap → Prop) =>
 iteB (decide (s0.2.2 < (if (y.len : Int) > (x0.len : Int) then (y.len : Int) else (x0.len : Int)))) (
 loop (fun (s0u1 : Int × Int) h1 (K0u1 : (Int × Int) → Heap → Prop) =>
 iteB (decide (s0u1.2 < 2)) (
 seq (fun (K0u2 : Int → Heap → Prop) =>
 idxV Sl.toV [Sl.toV x0, Sl.toV y] 2 s0u1.2 1 fun v =>
 iteB (decide (s0.2.2 < (v.len : Int))) (
 idxS v s0.2.2 1 fun a =>
 Lift.load (Value.int .u32) a h1 fun v_1 =>
 Let (IntKind.wrap .u64 (s0u1.1 + (IntKind.wrap .u64 v_1)) : Int) fun carry =>
 K0u2 carry h1
 ) (
 K0u2 s0u1.1 h1
 )
 ) (fun t0 h2 =>
 K0u1 (t0, IntKind.wrap .i64 (s0u1.2 + 1)) h2
 )
 ) (
 new [Value.int .u32 (IntKind.wrap .u32 s0u1.1)] h1 fun a_1 h3 =>
 aK 1 4 s0.1 (⟨some a_1, 1, 1⟩ : Sl) h3 fun v_3 h4 =>
 Let (Int.fdiv s0u1.1 (2 ^ (min (Int.toNat 32) (IntKind.bits .u64))) : Int) fun carry_1 =>
 K0 (v_3, carry_1, IntKind.wrap .i64 (s0.2.2 + 1)) h4
 )
 ) (s0.2.1, 0) h0
 ) (
 new [Value.int .u32 (IntKind.wrap .u32 s0.2.1)] h0 fun a_2 h5 =>
 aK 1 4 s0.1 (⟨some a_2, 1, 1⟩ : Sl) h5 fun v_5 h6 =>
 Q v_5 h6
 )
 ) (Sl.nil, 0, 0) h
def bz (b : (Option Addr)) (x0 : Sl) (y : Sl) (h : Heap) (Q : Sl → Heap → Prop) : Prop :=
 gO x0 y h fun v h0 =>
 aX b v h0 fun v_1 h1 =>
 Q v_1 h1
def i0 (n : Int) (h : Heap) (Q : Int → Heap → Prop) : Prop :=
 Q (if (-1) > (if 1 < n then 1 else n) then (-1) else (if 1 < n then 1 else n)) h
def fF (x0 : Sl) (y : Sl) (h : Heap) (Q : Int → Heap → Prop) : Prop :=
 aM x0 h fun v h0 =>
 aM y h0 fun v_1 h1 =>
 iteB ((v.len : Int) != (v_1.len : Int)) (
 i0 (IntKind.wrap .i64 ((v.len : Int) - (v_1.len : Int))) h1 fun v_2 h2 =>
 Q v_2 h2
 ) (
 Let (IntKind.wrap .i64 ((v.len : Int) - 1) : Int) fun i =>
 loop (fun (s0 : Int) h3 (K0 : Int → Heap → Prop) =>
 iteB (decide (s0 ≥ 0)) (
 idxS v s0 1 fun a =>
 Lift.load (Value.int .u32) a h3 fun v_3 =>
 idxS v_1 s0 1 fun a_1 =>
 Lift.load (Value.int .u32) a_1 h3 fun v_4 =>
 iteB (v_3 != v_4) (
 idxS v s0 1 fun a_2 =>
 Lift.load (Value.int .u32) a_2 h3 fun v_5 =>
 idxS v_1 s0 1 fun a_3 =>
 Lift.load (Value.int .u32) a_3 h3 fun v_6 =>
 i0 (IntKind.wrap .i64 ((IntKind.wrap .i64 v_5) - (IntKind.wrap .i64 v_6))) h3 fun v_7 h4 =>
 Q v_7 h4
 ) (
 Let (IntKind.wrap .i64 (s0 - 1) : Int) fun i_1 =>
 K0 i_1 h3
 )
 ) (
 Q 0 h3
 )
 ) i h1
 )
def dD (x0 : Sl) (y : Sl) (h : Heap) (Q : Sl → Heap → Prop) : Prop :=
 loop (fun (s0 : Sl × Int × Int) h0 (K0 : (Sl × Int × Int) → Heap → Prop) =>
 iteB (decide (s0.2.2 < (x0.len : Int))) (
 idxS x0 s0.2.2 1 fun a =>
 Lift.load (Value.int .u32) a h0 fun v =>
 Let (IntKind.wrap .u64 ((IntKind.wrap .u64 v) - s0.2.1) : Int) fun d =>
 seq (fun (K0u1 : Int → Heap → Prop) =>
 iteB (decide (s0.2.2 < (y.len : Int))) (
 idxS y s0.2.2 1 fun a_1 =>
 Lift.load (Value.int .u32) a_1 h0 fun v_1 =>
 Let (IntKind.wrap .u64 (d - (IntKind.wrap .u64 v_1)) : Int) fun d_1 =>
 K0u1 d_1 h0
 ) (
 K0u1 d h0
 )
 ) (fun t0 h1 =>
 new [Value.int .u32 (IntKind.wrap .u32 t0)] h1 fun a_2 h2 =>
 aK 1 4 s0.1 (⟨some a_2, 1, 1⟩ : Sl) h2 fun v_3 h3 =>
 Let (Int.fdiv t0 (2 ^ (min (Int.toNat 63) (IntKind.bits .u64))) : Int) fun borrow =>
 K0 (v_3, borrow, IntKind.wrap .i64 (s0.2.2 + 1)) h3
 )
 ) (
 aM s0.1 h0 fun v_4 h4 =>
 Q v_4 h4
 )
 ) (Sl.nil, 0, 0) h
def bQ (b : (Option Addr)) (x0 : Sl) (y : Sl) (h : Heap) (Q : Sl → Heap → Prop) : Prop :=
 fF x0 y h fun v h0 =>
 iteB (decide (v < 0)) (
 Q Sl.nil h0
 ) (
 aM y h0 fun v_1 h1 =>
 dD x0 v_1 h1 fun v_2 h2 =>
 aX b v_2 h2 fun v_3 h3 =>
 Q v_3 h3
 )
def iY (x0 : Bool × Sl) (y : Bool × Sl) (h : Heap) (Q : (Bool × Sl) → Heap → Prop) : Prop :=
 mem h fun h0 =>
 cg h0 fun v h1 =>
 iteB (x0.1 == y.1) (
 bz v x0.2 y.2 h1 fun v_1 h2 =>
 Q (x0.1, v_1) h2
 ) (
 fF x0.2 y.2 h1 fun v_2 h3 =>
 iteB (decide (v_2 ≥ 0)) (
 bQ v x0.2 y.2 h3 fun v_3 h4 =>
 Q (x0.1, v_3) h4
 ) (
 bQ v y.2 x0.2 h3 fun v_4 h5 =>
 Q (y.1, v_4) h5
 )
 )
def gf (x0 : Bool × Sl × Sl) (y : Bool × Sl × Sl) (h : Heap) (Q : Int → Heap → Prop) : Prop :=
 mem h fun h0 =>
 fv x0 y h0 fun v h1 =>
 mem h1 fun h2 =>
 iY (v.1.1, v.1.2) ((!v.2.1), v.2.2) h2 fun v_1 h3 =>
 mem h3 fun h4 =>
 iteB ((v_1.2.len : Int) == 0) (
 Q 0 h4
 ) (
 iteB v_1.1 (
 Q (-1) h4
 ) (
 Q 1 h4
 )
 )
def fX (x0 : Bool × Sl × Sl × Bool × Sl × Sl) (y : Bool × Sl × Sl × Bool × Sl × Sl) (h : Heap) (Q : Int → Heap → Prop) : Prop :=
 mem h fun h0 =>
 gf (x0.1, x0.2.1, x0.2.2.1) (y.1, y.2.1, y.2.2.1) h0 fun v h1 =>
 iteB (v != 0) (
 Q v h1
 ) (
 gf (x0.2.2.2.1, x0.2.2.2.2.1, x0.2.2.2.2.2) (y.2.2.2.1, y.2.2.2.2.1, y.2.2.2.2.2) h1 fun v_1 h2 =>
 Q v_1 h2
 )
def bb (s0 : Sl × Int) (v : Int) (x0 : Bool × Sl × Sl × Bool × Sl × Sl) (h : Heap) (Q : Bool → Heap → Prop) : Prop :=
 mem h fun h0 =>
 idxS s0.1 v 7 fun a =>
 aD ao 7 a h0 fun v_1 =>
 mem h0 fun h1 =>
 seq (fun (K0 : Bool → Heap → Prop) =>
 iteB (v_1.1 != 0) (
 fX x0 (v_1.2.1, v_1.2.2.1, v_1.2.2.2.1, v_1.2.2.2.2.1, v_1.2.2.2.2.2.1, v_1.2.2.2.2.2.2) h1 fun v_2 h3 =>
 K0 (decide ((IntKind.wrap .i64 (v_2 * s0.2)) > 0)) h3
 ) (
 K0 false h1
 )
 ) (fun t0 h2 =>
 Q t0 h2
 )
def bW (s0 : Sl) (v : Int) (h : Heap) (Q : Int → Heap → Prop) : Prop :=
 loop (fun (s0u1 : Int) h0 (K0 : Int → Heap → Prop) =>
 iteB (decide (s0u1 < (s0.len : Int))) (
 idxS s0 s0u1 1 fun a =>
 Lift.load (Value.int .i64) a h0 fun v_1 =>
 iteB (v == v_1) (
 Q s0u1 h0
 ) (
 K0 (IntKind.wrap .i64 (s0u1 + 1)) h0
 )
 ) (
 Q (-1) h0
 )
 ) 0 h
def fi (t0 : Sl × Sl × Sl × Sl × Sl) (v : Int) (h : Heap) (Q : Int → Heap → Prop) : Prop :=
 mem h fun h0 =>
 bW t0.1 v h0 fun v_1 h1 =>
 Q v_1 h1
def gh (x0 : Bool × Sl × Sl) (h : Heap) (Q : (Bool × Sl × Sl) → Heap → Prop) : Prop :=
 mem h fun h0 =>
 seq (fun (K0 : Bool → Heap → Prop) =>
 iteB (!x0.1) (
 Let (decide ((x0.2.1.len : Int) > 0) : Bool) fun neg =>
 K0 neg h0
 ) (
 K0 false h0
 )
 ) (fun t0 h1 =>
 ar x0.2.1 h1 fun v h2 =>
 ar x0.2.2 h2 fun v_1 h3 =>
 Q (t0, v, v_1) h3
 )
def dL (x0 : Sl) (h : Heap) (Q : (Int × Bool) → Heap → Prop) : Prop :=
 aM x0 h fun v h0 =>
 Let (IntKind.wrap .i64 ((v.len : Int) - 1) : Int) fun i =>
 loop (fun (s0 : Int × Int) h1 (K0 : (Int × Int) → Heap → Prop) =>
 iteB (decide (s0.2 ≥ 0)) (
 idxS v s0.2 1 fun a =>
 Lift.load (Value.int .u32) a h1 fun v_1 =>
 Let (IntKind.wrap .u64 (((BitVec.ofInt (IntKind.bits .u64) (IntKind.wrap .u64 (s0.1 * 2 ^ (min (Int.toNat 32) (IntKind.bits .u64)))) ||| BitVec.ofInt (IntKind.bits .u64) (IntKind.wrap .u64 v_1)).toNat : Int)) : Int) fun n =>
 Let (IntKind.wrap .i64 (s0.2 - 1) : Int) fun i_1 =>
 K0 (n, i_1) h1
 ) (
 Let (decide ((v.len : Int) ≤ 2) : Bool) fun ok =>
 Q (s0.1, ok) h1
 )
 ) (0, i) h0
def aQ (x0 : Int) (h : Heap) (Q : Int → Heap → Prop) : Prop :=
 iteB (x0 == 0) (
 Q 32 h
 ) (
 ((0 : Int) ≤ ((Int.fdiv (IntKind.wrap .u32 ((IntKind.wrap .u32 (((BitVec.ofInt (IntKind.bits .u32) x0 &&& BitVec.ofInt (IntKind.bits .u32) (IntKind.wrap .u32 (0 - x0))).toNat : Int))) * 125613361)) (2 ^ (min (Int.toNat 27) (IntKind.bits .u32)))) : Int) ∧ ((Int.fdiv (IntKind.wrap .u32 ((IntKind.wrap .u32 (((BitVec.ofInt (IntKind.bits .u32) x0 &&& BitVec.ofInt (IntKind.bits .u32) (IntKind.wrap .u32 (0 - x0))).toNat : Int))) * 125613361)) (2 ^ (min (Int.toNat 27) (IntKind.bits .u32)))) : Int) < 32) ∧
 Lift.load (Value.int .u8) ((⟨am, 0, none⟩ : Addr).add (Int.toNat (Int.fdiv (IntKind.wrap .u32 ((IntKind.wrap .u32 (((BitVec.ofInt (IntKind.bits .u32) x0 &&& BitVec.ofInt (IntKind.bits .u32) (IntKind.wrap .u32 (0 - x0))).toNat : Int))) * 125613361)) (2 ^ (min (Int.toNat 27) (IntKind.bits .u32)))) * 1)) h fun v =>
 Q (IntKind.wrap .i64 v) h
 )
def eB (x0 : Sl) (h : Heap) (Q : (Sl × Int) → Heap → Prop) : Prop :=
 loop (fun (s0 : Int) h0 (K0 : Int → Heap → Prop) =>
 idxS x0 (IntKind.wrap .i64 (Int.tdiv s0 32)) 1 fun a =>
 Lift.load (Value.int .u32) a h0 fun v =>
 iteB (v == 0) (
 Let (IntKind.wrap .i64 (s0 + 32) : Int) fun k =>
 K0 k h0
 ) (
 idxS x0 (IntKind.wrap .i64 (Int.tdiv s0 32)) 1 fun a_1 =>
 Lift.load (Value.int .u32) a_1 h0 fun v_1 =>
 aQ v_1 h0 fun v_2 h1 =>
 Let (IntKind.wrap .i64 (s0 + v_2) : Int) fun k_1 =>
 sliceOf x0 (some (IntKind.wrap .i64 (Int.tdiv k_1 32))) none none 1 fun v_3 =>
 ar v_3 h1 fun v_4 h2 =>
 seq (fun (K0u1 : Unit → Heap → Prop) =>
 Let (Int.tmod k_1 32 : Int) fun s0u1 =>
 iteB (decide (s0u1 > 0)) (
 loop (fun (s0u2 : Int) h4 (K0u2 : Int → Heap → Prop) =>
 iteB (decide (s0u2 < (v_4.len : Int))) (
 seq (fun (K0u3 : Unit → Heap → Prop) =>
 idxS v_4 s0u2 1 fun a_2 =>
 Lift.load (Value.int .u32) a_2 h4 fun v_5 =>
 (0 ≤ s0u1) ∧
 idxS v_4 s0u2 1 fun a_3 =>
 Lift.ady a_3 (Value.int .u32 (Int.fdiv v_5 (2 ^ (min (Int.toNat s0u1) (IntKind.bits .u32))))) h4 fun h6 =>
 iteB (decide ((IntKind.wrap .i64 (s0u2 + 1)) < (v_4.len : Int))) (
 idxS v_4 s0u2 1 fun a_4 =>
 Lift.load (Value.int .u32) a_4 h6 fun v_6 =>
 idxS v_4 (IntKind.wrap .i64 (s0u2 + 1)) 1 fun a_5 =>
 Lift.load (Value.int .u32) a_5 h6 fun v_7 =>
 (0 ≤ (IntKind.wrap .i64 (32 - s0u1))) ∧
 idxS v_4 s0u2 1 fun a_6 =>
 Lift.ady a_6 (Value.int .u32 (IntKind.wrap .u32 (((BitVec.ofInt (IntKind.bits .u32) v_6 ||| BitVec.ofInt (IntKind.bits .u32) (IntKind.wrap .u32 (v_7 * 2 ^ (min (Int.toNat (IntKind.wrap .i64 (32 - s0u1))) (IntKind.bits .u32))))).toNat : Int)))) h6 fun h7 =>
 K0u3 () h7
 ) (
 K0u3 () h6
 )
 ) (fun t0u1 h5 =>
 K0u2 (IntKind.wrap .i64 (s0u2 + 1)) h5
 )
 ) (
 K0u1 () h4
 )
 ) 0 h2
 ) (
 K0u1 () h2
 )
 ) (fun t0 h3 =>
 aM v_4 h3 fun v_8 h8 =>
 Q (v_8, k_1) h8
 )
 )
 ) 0 h
def gE (x0 : Sl) (k : Int) (h : Heap) (Q : Sl → Heap → Prop) : Prop :=
 Let (IntKind.wrap .i64 ((IntKind.wrap .i64 (Int.tdiv k 32)) + 1) : Int) fun t8 =>
 mkS [Value.int .u32 0] 4 t8 t8 h fun v h0 =>
 (0 ≤ (Int.tmod k 32)) ∧
 idxS v (IntKind.wrap .i64 (Int.tdiv k 32)) 1 fun a =>
 Lift.ady a (Value.int .u32 (IntKind.wrap .u32 (1 * 2 ^ (min (Int.toNat (Int.tmod k 32)) (IntKind.bits .u32))))) h0 fun h1 =>
 gt x0 v h1 fun v_1 h2 =>
 aM v_1 h2 fun v_2 h3 =>
 Q v_2 h3
def gN (x0 : Sl) (y : Sl) (h : Heap) (Q : Sl → Heap → Prop) : Prop :=
 aM x0 h fun v h0 =>
 aM y h0 fun v_1 h1 =>
 iteB ((v.len : Int) == 0) (
 Q v_1 h1
 ) (
 iteB ((v_1.len : Int) == 0) (
 Q v h1
 ) (
 seq (fun (K0 : Unit → Heap → Prop) =>
 dL v h1 fun v_2 h3 =>
 iteB v_2.2 (
 dL v_1 h3 fun v_3 h4 =>
 iteB v_3.2 (
 loop (fun (s0 : Int × Int) h5 (K0u1 : (Int × Int) → Heap → Prop) =>
 iteB (s0.2 != 0) (
 (s0.2 ≠ 0) ∧
 Let (Int.tmod s0.1 s0.2 : Int) fun m0 =>
 K0u1 (s0.2, m0) h5
 ) (
 jm s0.1 h5 fun v_4 h6 =>
 Q v_4 h6
 )
 ) (v_2.1, v_3.1) h4
 ) (
 K0 () h4
 )
 ) (
 K0 () h3
 )
 ) (fun t0 h2 =>
 eB v h2 fun v_5 h7 =>
 eB v_1 h7 fun v_6 h8 =>
 loop (fun (s0u1 : Sl × Sl) h9 (K0u2 : (Sl × Sl) → Heap → Prop) =>
 fF s0u1.1 s0u1.2 h9 fun v_7 h10 =>
 iteB (v_7 != 0) (
 seq (fun (K0u3 : (Sl × Sl) → Heap → Prop) =>
 fF s0u1.1 s0u1.2 h10 fun v_8 h12 =>
 iteB (decide (v_8 < 0)) (
 K0u3 (s0u1.2, s0u1.1) h12
 ) (
 K0u3 s0u1 h12
 )
 ) (fun t0u1 h11 =>
 dD t0u1.1 t0u1.2 h11 fun v_9 h13 =>
 eB v_9 h13 fun v_10 h14 =>
 K0u2 (v_10.1, t0u1.2) h14
 )
 ) (
 gE s0u1.1 (if v_6.2 < v_5.2 then v_6.2 else v_5.2) h10 fun v_11 h15 =>
 Q v_11 h15
 )
 ) (v_5.1, v_6.1) h8
 )
 )
 )
def cD (b : (Option Addr)) (x0 : Sl) (y : Sl) (h : Heap) (Q : Sl → Heap → Prop) : Prop :=
 gN x0 y h fun v h0 =>
 aX b v h0 fun v_1 h1 =>
 Q v_1 h1
def oh (x0 : Sl) (at0 : Int) (h : Heap) (Q : Int → Heap → Prop) : Prop :=
 idxS x0 (IntKind.wrap .i64 (Int.tdiv at0 32)) 1 fun a =>
 Lift.load (Value.int .u32) a h fun v =>
 (0 ≤ (Int.tmod at0 32)) ∧
 Q (IntKind.wrap .u32 (((BitVec.ofInt (IntKind.bits .u32) (Int.fdiv v (2 ^ (min (Int.toNat (Int.tmod at0 32)) (IntKind.bits .u32)))) &&& BitVec.ofInt (IntKind.bits .u32) 1).toNat : Int))) h
def gW (x0 : Sl) (y : Sl) (h : Heap) (Q : (Sl × Sl) → Heap → Prop) : Prop :=
 dL x0 h fun v h0 =>
 dL y h0 fun v_1 h1 =>
 seq (fun (K0 : Bool → Heap → Prop) =>
 iteB v.2 (
 K0 v_1.2 h1
 ) (
 K0 false h1
 )
 ) (fun t0 h2 =>
 iteB t0 (
 (v_1.1 ≠ 0) ∧
 (v_1.1 ≠ 0) ∧
 jm (IntKind.wrap .u64 (Int.tdiv v.1 v_1.1)) h2 fun v_2 h3 =>
 jm (Int.tmod v.1 v_1.1) h3 fun v_3 h4 =>
 Q (v_2, v_3) h4
 ) (
 aM x0 h2 fun v_4 h5 =>
 aM y h5 fun v_5 h6 =>
 Let ((v_4.len : Int) : Int) fun t38 =>
 mkS [Value.int .u32 0] 4 t38 t38 h6 fun v_6 h7 =>
 Let (IntKind.wrap .i64 ((IntKind.wrap .i64 ((v_4.len : Int) * 32)) - 1) : Int) fun at0 =>
 loop (fun (s0 : Sl × Int) h8 (K0u1 : (Sl × Int) → Heap → Prop) =>
 iteB (decide (s0.2 ≥ 0)) (
 seq (fun (K0u2 : Sl → Heap → Prop) =>
 gO s0.1 s0.1 h8 fun v_7 h10 =>
 idxS v_7 0 1 fun a =>
 Lift.load (Value.int .u32) a h10 fun v_8 =>
 oh v_4 s0.2 h10 fun v_9 h11 =>
 (cell? h11 a = some (Value.int .u32 v_8)) ∧
 idxS v_7 0 1 fun a_1 =>
 Lift.ady a_1 (Value.int .u32 (IntKind.wrap .u32 (((BitVec.ofInt (IntKind.bits .u32) v_8 ||| BitVec.ofInt (IntKind.bits .u32) v_9).toNat : Int)))) h11 fun h12 =>
 aM v_7 h12 fun v_10 h13 =>
 fF v_10 v_5 h13 fun v_11 h14 =>
 iteB (decide (v_11 ≥ 0)) (
 dD v_10 v_5 h14 fun v_12 h15 =>
 idxS v_6 (IntKind.wrap .i64 (Int.tdiv s0.2 32)) 1 fun a_2 =>
 Lift.load (Value.int .u32) a_2 h15 fun v_13 =>
 (0 ≤ (Int.tmod s0.2 32)) ∧
 idxS v_6 (IntKind.wrap .i64 (Int.tdiv s0.2 32)) 1 fun a_3 =>
 Lift.ady a_3 (Value.int .u32 (IntKind.wrap .u32 (((BitVec.ofInt (IntKind.bits .u32) v_13 ||| BitVec.ofInt (IntKind.bits .u32) (IntKind.wrap .u32 (1 * 2 ^ (min (Int.toNat (Int.tmod s0.2 32)) (IntKind.bits .u32))))).toNat : Int)))) h15 fun h16 =>
 K0u2 v_12 h16
 ) (
 K0u2 v_10 h14
 )
 ) (fun t0u1 h9 =>
 Let (IntKind.wrap .i64 (s0.2 - 1) : Int) fun at0u1 =>
 K0u1 (t0u1, at0u1) h9
 )
 ) (
 aM v_6 h8 fun v_14 h17 =>
 Q (v_14, s0.1) h17
 )
 ) (Sl.nil, at0) h7
 )
 )
def bT (b : (Option Addr)) (x0 : Sl) (y : Sl) (h : Heap) (Q : (Sl × Sl) → Heap → Prop) : Prop :=
 aM y h fun v h0 =>
 iteB ((v.len : Int) == 0) (
 Q (Sl.nil, Sl.nil) h0
 ) (
 gW x0 y h0 fun v_1 h1 =>
 aX b v_1.1 h1 fun v_2 h2 =>
 aX b v_1.2 h2 fun v_3 h3 =>
 aJ b fun a =>
 Lift.load Value.bool (a.add 1) h3 fun v_4 =>
 iteB v_4 (
 Q (Sl.nil, Sl.nil) h3
 ) (
 Q (v_2, v_3) h3
 )
 )
def bd (s1 : Sl) (s2 : Sl) (h : Heap) (Q : Bool → Heap → Prop) : Prop :=
 iteB ((s1.len : Int) != (s2.len : Int)) (
 Q false h
 ) (
 loop (fun (s0 : Int) h0 (K0 : Int → Heap → Prop) =>
 iteB (decide (s0 < (s1.len : Int))) (
 idxS s1 s0 1 fun a =>
 Lift.load (Value.int .u32) a h0 fun v =>
 idxS s2 s0 1 fun a_1 =>
 Lift.load (Value.int .u32) a_1 h0 fun v_1 =>
 iteB (v != v_1) (
 Q false h0
 ) (
 K0 (IntKind.wrap .i64 (s0 + 1)) h0
 )
 ) (
 Q true h0
 )
 ) 0 h
 )
def iF (x0 : Sl) (h : Heap) (Q : Bool → Heap → Prop) : Prop :=
 jz h fun v h0 =>
 bd x0 v h0 fun v_1 h1 =>
 Q v_1 h1
def du (neg : Bool) (num : Sl) (d : Sl) (h : Heap) (Q : (Bool × Sl × Sl) → Heap → Prop) : Prop :=
 mem h fun h0 =>
 cg h0 fun v h1 =>
 cD v num d h1 fun v_1 h2 =>
 bT v num v_1 h2 fun v_2 h3 =>
 bT v d v_1 h3 fun v_3 h4 =>
 seq (fun (K0 : Sl → Heap → Prop) =>
 iF v_3.1 h4 fun v_4 h6 =>
 iteB v_4 (
 K0 Sl.nil h6
 ) (
 K0 v_3.1 h6
 )
 ) (fun t0 h5 =>
 iteB ((v_2.1.len : Int) == 0) (
 Q (false, Sl.nil, Sl.nil) h5
 ) (
 Q (neg, v_2.1, t0) h5
 )
 )
def aI (b : (Option Addr)) (h : Heap) (Q : Bool → Heap → Prop) : Prop :=
 aJ b fun a =>
 Lift.load Value.bool (a.add 1) h fun v =>
 Q v h
def eN (b : (Option Addr)) (x0 : Bool × Sl × Sl) (h : Heap) (Q : (Bool × Sl × Sl) → Heap → Prop) : Prop :=
 mem h fun h0 =>
 bz b x0.2.1 Sl.nil h0 fun v h1 =>
 bz b x0.2.2 Sl.nil h1 fun v_1 h2 =>
 aI b h2 fun v_2 h3 =>
 iteB v_2 (
 Q (false, Sl.nil, Sl.nil) h3
 ) (
 Q x0 h3
 )
def cV (b : (Option Addr)) (x0 : Bool × Sl × Sl) (y : Bool × Sl × Sl) (h : Heap) (Q : (Bool × Sl × Sl) → Heap → Prop) : Prop :=
 mem h fun h0 =>
 fv x0 y h0 fun v h1 =>
 iY (v.1.1, v.1.2) (v.2.1, v.2.2) h1 fun v_1 h2 =>
 mem h2 fun h3 =>
 cg h3 fun v_2 h4 =>
 bM x0 h4 fun v_3 h5 =>
 bM y h5 fun v_4 h6 =>
 aR v_2 v_3 v_4 h6 fun v_5 h7 =>
 du v_1.1 v_1.2 v_5 h7 fun v_6 h8 =>
 eN b v_6 h8 fun v_7 h9 =>
 Q v_7 h9
def gg (b : (Option Addr)) (x0 : Bool × Sl × Sl) (y : Bool × Sl × Sl) (h : Heap) (Q : (Bool × Sl × Sl) → Heap → Prop) : Prop :=
 mem h fun h0 =>
 gh y h0 fun v h1 =>
 cV b x0 v h1 fun v_1 h2 =>
 Q v_1 h2
def c6 (b : (Option Addr)) (x0 : Bool × Sl × Sl × Bool × Sl × Sl) (y : Bool × Sl × Sl × Bool × Sl × Sl) (h : Heap) (Q : (Bool × Sl × Sl × Bool × Sl × Sl) → Heap → Prop) : Prop :=
 mem h fun h0 =>
 seq (fun (K0 : (Bool × Sl × Sl × Bool × Sl × Sl) → Heap → Prop) =>
 mem h0 fun h2 =>
 gg b (x0.1, x0.2.1, x0.2.2.1) (y.1, y.2.1, y.2.2.1) h2 fun v_3 h9 =>
 mem h9 fun h10 =>
 gg b (x0.2.2.2.1, x0.2.2.2.2.1, x0.2.2.2.2.2) (y.2.2.2.1, y.2.2.2.2.1, y.2.2.2.2.2) h10 fun v_4 h11 =>
 mem h11 fun h12 =>
 K0 (v_3.1, v_3.2.1, v_3.2.2, v_4.1, v_4.2.1, v_4.2.2) h12
 ) (fun t0 h1 =>
 aI b h1 fun v_5 h13 =>
 iteB v_5 (
 Q (false, Sl.nil, Sl.nil, false, Sl.nil, Sl.nil) h13
 ) (
 Q t0 h13
 )
 )
def jn (b : (Option Addr)) (x0 : Bool × Sl × Sl × Bool × Sl × Sl) (y : Bool × Sl × Sl × Bool × Sl × Sl) (h : Heap) (Q : (Bool × Sl × Sl × Bool × Sl × Sl) → Heap → Prop) : Prop :=
 mem h fun h0 =>
 c6 b x0 y h0 fun v h1 =>
 Q v h1
def dF (m0 : Int × Bool × Sl × Sl) (v : Int) (h : Heap) (Q : Int → Heap → Prop) : Prop :=
 mem h fun h0 =>
 Q (IntKind.wrap .i64 (m0.1 - v)) h0
def aj (x0 : Sl) (target : Int) (h : Heap) (Q : (Int × Bool) → Heap → Prop) : Prop :=
 Let ((x0.len : Int) : Int) fun n =>
 loop (fun (s0 : Int × Int) h0 (K0 : (Int × Int) → Heap → Prop) =>
 iteB (decide (s0.1 < s0.2)) (
 Let (IntKind.wrap .i64 (Int.fdiv (IntKind.wrap .u64 (IntKind.wrap .i64 (s0.1 + s0.2))) (2 ^ (min (Int.toNat 1) (IntKind.bits .u64)))) : Int) fun h1 =>
 idxS x0 h1 4 fun a =>
 aD ai 4 a h0 fun v =>
 dF v target h0 fun v_1 h2 =>
 iteB (decide (v_1 < 0)) (
 Let (IntKind.wrap .i64 (h1 + 1) : Int) fun i =>
 K0 (i, s0.2) h2
 ) (
 K0 (s0.1, h1) h2
 )
 ) (
 seq (fun (K0u1 : (Int × Bool) → Heap → Prop) =>
 iteB (decide (s0.1 < n)) (
 idxS x0 s0.1 4 fun a_1 =>
 aD ai 4 a_1 h0 fun v_2 =>
 dF v_2 target h0 fun v_3 h4 =>
 K0u1 (s0.1, (v_3 == 0)) h4
 ) (
 K0u1 (s0.1, false) h0
 )
 ) (fun t0 h3 =>
 Q t0 h3
 )
 )
 ) (0, n) h
def cU (p : Bool × Sl × Sl × Sl) (v : Int) (h : Heap) (Q : (Bool × Sl × Sl) → Heap → Prop) : Prop :=
 mem h fun h0 =>
 aj p.2.2.2 v h0 fun v_1 h1 =>
 iteB (!v_1.2) (
 Q (false, Sl.nil, Sl.nil) h1
 ) (
 idxS p.2.2.2 v_1.1 4 fun a =>
 aD aA 3 (a.add 1) h1 fun v_2 =>
 Q v_2 h1
 )
def bF (x0 : Bool × Sl × Sl) (h : Heap) (Q : Int → Heap → Prop) : Prop :=
 mem h fun h0 =>
 iteB ((x0.2.1.len : Int) == 0) (
 Q 0 h0
 ) (
 iteB x0.1 (
 Q (-1) h0
 ) (
 Q 1 h0
 )
 )
def eK (b : (Option Addr)) (x0 : Bool × Sl × Sl) (y : Bool × Sl × Sl) (h : Heap) (Q : (Bool × Sl × Sl) → Heap → Prop) : Prop :=
 mem h fun h0 =>
 cg h0 fun v h1 =>
 aR v x0.2.1 y.2.1 h1 fun v_1 h2 =>
 bM x0 h2 fun v_2 h3 =>
 bM y h3 fun v_3 h4 =>
 aR v v_2 v_3 h4 fun v_4 h5 =>
 du (!(x0.1 == y.1)) v_1 v_4 h5 fun v_5 h6 =>
 eN b v_5 h6 fun v_6 h7 =>
 Q v_6 h7
def cZ (b : (Option Addr)) (x0 : Bool × Sl × Sl × Bool × Sl × Sl) (y : Bool × Sl × Sl × Bool × Sl × Sl) (h : Heap) (Q : (Bool × Sl × Sl × Bool × Sl × Sl) → Heap → Prop) : Prop :=
 mem h fun h0 =>
 seq (fun (K0 : (Bool × Sl × Sl × Bool × Sl × Sl) → Heap → Prop) =>
 mem h0 fun h2 =>
 eK b (x0.1, x0.2.1, x0.2.2.1) (y.1, y.2.1, y.2.2.1) h2 fun v_3 h9 =>
 mem h9 fun h10 =>
 eK b (x0.2.2.2.1, x0.2.2.2.2.1, x0.2.2.2.2.2) (y.2.2.2.1, y.2.2.2.2.1, y.2.2.2.2.2) h10 fun v_4 h11 =>
 mem h11 fun h12 =>
 K0 (v_3.1, v_3.2.1, v_3.2.2, v_4.1, v_4.2.1, v_4.2.2) h12
 ) (fun t0 h1 =>
 aI b h1 fun v_5 h13 =>
 iteB v_5 (
 Q (false, Sl.nil, Sl.nil, false, Sl.nil, Sl.nil) h13
 ) (
 Q t0 h13
 )
 )
def fD (b : (Option Addr)) (k : Bool × Sl × Sl) (x0 : Bool × Sl × Sl × Bool × Sl × Sl) (h : Heap) (Q : (Bool × Sl × Sl × Bool × Sl × Sl) → Heap → Prop) : Prop :=
 mem h fun h0 =>
 cZ b (k.1, k.2.1, k.2.2, k.1, k.2.1, k.2.2) x0 h0 fun v h1 =>
 Q v h1
def cX (b : (Option Addr)) (x0 : Bool × Sl × Sl × Bool × Sl × Sl) (y : Bool × Sl × Sl × Bool × Sl × Sl) (h : Heap) (Q : (Bool × Sl × Sl × Bool × Sl × Sl) → Heap → Prop) : Prop :=
 mem h fun h0 =>
 seq (fun (K0 : (Bool × Sl × Sl × Bool × Sl × Sl) → Heap → Prop) =>
 mem h0 fun h2 =>
 cV b (x0.1, x0.2.1, x0.2.2.1) (y.1, y.2.1, y.2.2.1) h2 fun v_3 h9 =>
 mem h9 fun h10 =>
 cV b (x0.2.2.2.1, x0.2.2.2.2.1, x0.2.2.2.2.2) (y.2.2.2.1, y.2.2.2.2.1, y.2.2.2.2.2) h10 fun v_4 h11 =>
 mem h11 fun h12 =>
 K0 (v_3.1, v_3.2.1, v_3.2.2, v_4.1, v_4.2.1, v_4.2.2) h12
 ) (fun t0 h1 =>
 aI b h1 fun v_5 h13 =>
 iteB v_5 (
 Q (false, Sl.nil, Sl.nil, false, Sl.nil, Sl.nil) h13
 ) (
 Q t0 h13
 )
 )
def i8 (b : (Option Addr)) (x0 : Bool × Sl × Sl × Bool × Sl × Sl) (y : Bool × Sl × Sl × Bool × Sl × Sl) (h : Heap) (Q : (Bool × Sl × Sl × Bool × Sl × Sl) → Heap → Prop) : Prop :=
 mem h fun h0 =>
 cX b x0 y h0 fun v h1 =>
 Q v h1
def fY (b : (Option Addr)) (h : Heap) (Q : Int → Heap → Prop) : Prop :=
 aI b h fun v h0 =>
 iteB v (
 Q 6 h0
 ) (
 Q 0 h0
 )
def cQ (b : (Option Addr)) (t0 : (Option Addr)) (v : Int) (x0 : Bool × Sl × Sl × Bool × Sl × Sl) (h : Heap) (Q : Int → Heap → Prop) : Prop :=
 mem h fun h0 =>
 seq (fun (K0 : Bool → Heap → Prop) =>
 iteB (decide (v < 0)) (
 K0 true h0
 ) (
 aJ t0 fun a =>
 Lift.load Sl.toV (a.add 2) h0 fun v_1 =>
 iteB (decide (v ≥ (v_1.len : Int))) (
 K0 true h0
 ) (
 aJ t0 fun a_1 =>
 aD aC 5 a_1 h0 fun v_2 =>
 fi v_2 v h0 fun v_3 h2 =>
 K0 (decide (v_3 ≥ 0)) h2
 )
 )
 ) (fun t0u1 h1 =>
 iteB t0u1 (
 Q 2 h1
 ) (
 seq (fun (K0u1 : (Bool × Sl × Sl × Bool × Sl × Sl) → Heap → Prop) =>
 aJ t0 fun a_2 =>
 Lift.load Sl.toV (a_2.add 2) h1 fun v_4 =>
 idxS v_4 v 6 fun a_3 =>
 aD aa 6 a_3 h1 fun v_5 =>
 mem h1 fun h4 =>
 jn b x0 v_5 h4 fun v_7 h7 =>
 mem h7 fun h8 =>
 K0u1 v_7 h8
 ) (fun t0u2 h3 =>
 aJ t0 fun a_4 =>
 Lift.load Sl.toV (a_4.add 2) h3 fun v_8 =>
 idxS v_8 v 6 fun a_5 =>
 dU a_5 [Value.bool x0.1, Sl.toV x0.2.1, Sl.toV x0.2.2.1, Value.bool x0.2.2.2.1, Sl.toV x0.2.2.2.2.1, Sl.toV x0.2.2.2.2.2] h3 fun h9 =>
 aJ t0 fun a_6 =>
 Lift.load Sl.toV (a_6.add 1) h9 fun v_9 =>
 loop (fun (s0 : Int) h10 (K0u2 : Int → Heap → Prop) =>
 iteB (decide (s0 < (v_9.len : Int))) (
 seq (fun (K0u3 : Unit → Heap → Prop) =>
 idxS v_9 s0 4 fun a_7 =>
 aD ah 4 a_7 h10 fun v_10 =>
 mem h10 fun h12 =>
 cU v_10 v h12 fun v_11 h13 =>
 mem h13 fun h14 =>
 bF v_11 h14 fun v_12 h15 =>
 iteB (v_12 != 0) (
 aJ t0 fun a_8 =>
 Lift.load Sl.toV (a_8.add 0) h15 fun v_13 =>
 idxS v_13 s0 1 fun a_9 =>
 Lift.load (Value.int .i64) a_9 h15 fun v_14 =>
 aJ t0 fun a_10 =>
 Lift.load Sl.toV (a_10.add 2) h15 fun v_15 =>
 aJ t0 fun a_11 =>
 Lift.load Sl.toV (a_11.add 2) h15 fun v_16 =>
 idxS v_16 v_14 6 fun a_12 =>
 aD aa 6 a_12 h15 fun v_17 =>
 fD b v_11 t0u2 h15 fun v_18 h16 =>
 (cell? h16 (a_10.add 2) = some (Sl.toV v_15)) ∧
 (cell? h16 (a_11.add 2) = some (Sl.toV v_16)) ∧
 (cells? h16 a_12 6 0 = some [Value.bool v_17.1, Sl.toV v_17.2.1, Sl.toV v_17.2.2.1, Value.bool v_17.2.2.2.1, Sl.toV v_17.2.2.2.2.1, Sl.toV v_17.2.2.2.2.2]) ∧
 i8 b v_17 v_18 h16 fun v_19 h17 =>
 (cell? h17 (a_10.add 2) = some (Sl.toV v_15)) ∧
 idxS v_15 v_14 6 fun a_13 =>
 dU a_13 [Value.bool v_19.1, Sl.toV v_19.2.1, Sl.toV v_19.2.2.1, Value.bool v_19.2.2.2.1, Sl.toV v_19.2.2.2.2.1, Sl.toV v_19.2.2.2.2.2] h17 fun h18 =>
 K0u3 () h18
 ) (
 K0u3 () h15
 )
 ) (fun t0u3 h11 =>
 K0u2 (IntKind.wrap .i64 (s0 + 1)) h11
 )
 ) (
 fY b h10 fun v_20 h19 =>
 Q v_20 h19
 )
 ) 0 h9
 )
 )
 )
def bR (b : (Option Addr)) (t0 : (Option Addr)) (v : Int) (upper : Bool) (e : Int × Bool × Sl × Sl × Bool × Sl × Sl) (h : Heap) (Q : (Sl × Int) → Heap → Prop) : Prop :=
 mem h fun h0 =>
 seq (fun (K0 : Bool → Heap → Prop) =>
 iteB (decide (v < 0)) (
 K0 true h0
 ) (
 aJ t0 fun a =>
 Lift.load Sl.toV (a.add 2) h0 fun v_1 =>
 K0 (decide (v ≥ (v_1.len : Int))) h0
 )
 ) (fun t0u1 h1 =>
 iteB t0u1 (
 Q (Sl.nil, 2) h1
 ) (
 iteB (e.1 == 0) (
 Q (Sl.nil, 1) h1
 ) (
 bU t0 upper h1 fun v_2 h2 =>
 bU t0 (!upper) h2 fun v_3 h3 =>
 mem h3 fun h4 =>
 seq (fun (K0u1 : Bool → Heap → Prop) =>
 idxS v_2.1 v 7 fun a_1 =>
 Lift.load (Value.int .i64) (a_1.add 0) h4 fun v_4 =>
 iteB (v_4 != 0) (
 idxS v_2.1 v 7 fun a_2 =>
 aD aa 6 (a_2.add 1) h4 fun v_5 =>
 fX v_5 (e.2.1, e.2.2.1, e.2.2.2.1, e.2.2.2.2.1, e.2.2.2.2.2.1, e.2.2.2.2.2.2) h4 fun v_6 h6 =>
 K0u1 (decide ((IntKind.wrap .i64 (v_6 * v_2.2)) ≤ 0)) h6
 ) (
 K0u1 false h4
 )
 ) (fun t0u2 h5 =>
 iteB t0u2 (
 Q (Sl.nil, 0) h5
 ) (
 bb v_3 v (e.2.1, e.2.2.1, e.2.2.2.1, e.2.2.2.2.1, e.2.2.2.2.2.1, e.2.2.2.2.2.2) h5 fun v_7 h7 =>
 iteB v_7 (
 idxS v_3.1 v 7 fun a_3 =>
 Lift.load (Value.int .i64) (a_3.add 0) h7 fun v_8 =>
 cr 1 h7 fun v_9 h8 =>
 (cell? h8 (a_3.add 0) = some (Value.int .i64 v_8)) ∧
 cr 1 h8 fun v_10 h9 =>
 (cell? h9 (a_3.add 0) = some (Value.int .i64 v_8)) ∧
 new [Value.int .i64 e.1, Value.bool v_9.1, Sl.toV v_9.2.1, Sl.toV v_9.2.2, Value.int .i64 v_8, Value.bool v_10.1, Sl.toV v_10.2.1, Sl.toV v_10.2.2] h9 fun a_4 h10 =>
 Q ((⟨some a_4, 2, 2⟩ : Sl), 0) h10
 ) (
 idxS v_2.1 v 7 fun a_5 =>
 dU a_5 [Value.int .i64 e.1, Value.bool e.2.1, Sl.toV e.2.2.1, Sl.toV e.2.2.2.1, Value.bool e.2.2.2.2.1, Sl.toV e.2.2.2.2.2.1, Sl.toV e.2.2.2.2.2.2] h7 fun h11 =>
 seq (fun (K0u2 : Bool → Heap → Prop) =>
 aJ t0 fun a_6 =>
 aD aC 5 a_6 h11 fun v_12 =>
 fi v_12 v h11 fun v_13 h13 =>
 iteB (decide (v_13 < 0)) (
 aJ t0 fun a_7 =>
 Lift.load Sl.toV (a_7.add 2) h13 fun v_14 =>
 idxS v_14 v 6 fun a_8 =>
 aD aa 6 a_8 h13 fun v_15 =>
 bb v_2 v v_15 h13 fun v_16 h14 =>
 K0u2 v_16 h14
 ) (
 K0u2 false h13
 )
 ) (fun t0u3 h12 =>
 iteB t0u3 (
 cQ b t0 v (e.2.1, e.2.2.1, e.2.2.2.1, e.2.2.2.2.1, e.2.2.2.2.2.1, e.2.2.2.2.2.2) h12 fun v_17 h15 =>
 Q (Sl.nil, v_17) h15
 ) (
 Q (Sl.nil, 0) h12
 )
 )
 )
 )
 )
 )
 )
 )
def fE (t0 : (Option Addr)) (h : Heap) (Q : (Int × Bool) → Heap → Prop) : Prop :=
 aJ t0 fun a =>
 Lift.load Sl.toV (a.add 0) h fun v =>
 loop (fun (s0 : Int × Bool × Int) h0 (K0 : (Int × Bool × Int) → Heap → Prop) =>
 iteB (decide (s0.2.2 < (v.len : Int))) (
 idxS v s0.2.2 1 fun a_1 =>
 Lift.load (Value.int .i64) a_1 h0 fun v_1 =>
 loop (fun (s0u1 : Int × Bool × Int) h1 (K0u1 : (Int × Bool × Int) → Heap → Prop) =>
 iteB (decide (s0u1.2.2 < 2)) (
 seq (fun (K0u2 : (Int × Bool) → Heap → Prop) =>
 idxV Value.bool [Value.bool false, Value.bool true] 2 s0u1.2.2 1 fun v_2 =>
 seq (fun (K0u3 : Bool → Heap → Prop) =>
 aJ t0 fun a_2 =>
 Lift.load Sl.toV (a_2.add 2) h1 fun v_3 =>
 idxS v_3 v_1 6 fun a_3 =>
 aD aa 6 a_3 h1 fun v_4 =>
 bU t0 v_2 h1 fun v_5 h4 =>
 (cell? h4 (a_2.add 2) = some (Sl.toV v_3)) ∧
 (cells? h4 a_3 6 0 = some [Value.bool v_4.1, Sl.toV v_4.2.1, Sl.toV v_4.2.2.1, Value.bool v_4.2.2.2.1, Sl.toV v_4.2.2.2.2.1, Sl.toV v_4.2.2.2.2.2]) ∧
 bb v_5 v_1 v_4 h4 fun v_6 h5 =>
 iteB v_6 (
 iteB (decide (s0u1.1 < 0)) (
 K0u3 true h5
 ) (
 aJ t0 fun a_4 =>
 Lift.load Sl.toV (a_4.add 0) h5 fun v_7 =>
 idxS v_7 s0u1.1 1 fun a_5 =>
 Lift.load (Value.int .i64) a_5 h5 fun v_8 =>
 K0u3 (decide (v_1 < v_8)) h5
 )
 ) (
 K0u3 false h5
 )
 ) (fun t0u2 h3 =>
 iteB t0u2 (
 K0u2 (s0.2.2, v_2) h3
 ) (
 K0u2 (s0u1.1, s0u1.2.1) h3
 )
 )
 ) (fun t0u1 h2 =>
 K0u1 (t0u1.1, t0u1.2, IntKind.wrap .i64 (s0u1.2.2 + 1)) h2
 )
 ) (
 K0 (s0u1.1, s0u1.2.1, IntKind.wrap .i64 (s0.2.2 + 1)) h1
 )
 ) (s0.1, s0.2.1, 0) h0
 ) (
 Q (s0.1, s0.2.1) h0
 )
 ) ((-1), false, 0) h
def ff (m0 : Int × Bool × Sl × Sl) (upper : Bool) (h : Heap) (Q : Bool → Heap → Prop) : Prop :=
 mem h fun h0 =>
 bF (m0.2.1, m0.2.2.1, m0.2.2.2) h0 fun v h1 =>
 Q (!((decide (v > 0)) == upper)) h1
def cL (s0 : Sl × Int) (v : Int) (x0 : Bool × Sl × Sl × Bool × Sl × Sl) (h : Heap) (Q : Bool → Heap → Prop) : Prop :=
 mem h fun h0 =>
 idxS s0.1 v 7 fun a =>
 aD ao 7 a h0 fun v_1 =>
 mem h0 fun h1 =>
 seq (fun (K0 : Bool → Heap → Prop) =>
 iteB (v_1.1 == 0) (
 K0 true h1
 ) (
 fX x0 (v_1.2.1, v_1.2.2.1, v_1.2.2.2.1, v_1.2.2.2.2.1, v_1.2.2.2.2.2.1, v_1.2.2.2.2.2.2) h1 fun v_2 h3 =>
 K0 (decide ((IntKind.wrap .i64 (v_2 * s0.2)) < 0)) h3
 )
 ) (fun t0 h2 =>
 Q t0 h2
 )
def gb (m0 : Int × Bool × Sl × Sl) (c0 : Addr) (c1 : Addr) (h : Heap) (Q : Bool → Heap → Prop) : Prop :=
 mem h fun h0 =>
 Lift.load Value.pointer c0 h0 fun v =>
 Lift.load Value.bool c1 h0 fun v_1 =>
 Lift.load Value.pointer c0 h0 fun v_2 =>
 aJ v_2 fun a =>
 Lift.load Sl.toV (a.add 2) h0 fun v_3 =>
 idxS v_3 m0.1 6 fun a_1 =>
 aD aa 6 a_1 h0 fun v_4 =>
 ff m0 v_1 h0 fun v_5 h1 =>
 (cell? h1 c0 = some (Value.pointer v)) ∧
 (cell? h1 c0 = some (Value.pointer v_2)) ∧
 (cell? h1 (a.add 2) = some (Sl.toV v_3)) ∧
 (cells? h1 a_1 6 0 = some [Value.bool v_4.1, Sl.toV v_4.2.1, Sl.toV v_4.2.2.1, Value.bool v_4.2.2.2.1, Sl.toV v_4.2.2.2.2.1, Sl.toV v_4.2.2.2.2.2]) ∧
 bU v v_5 h1 fun v_6 h2 =>
 (cell? h2 c0 = some (Value.pointer v_2)) ∧
 (cell? h2 (a.add 2) = some (Sl.toV v_3)) ∧
 (cells? h2 a_1 6 0 = some [Value.bool v_4.1, Sl.toV v_4.2.1, Sl.toV v_4.2.2.1, Value.bool v_4.2.2.2.1, Sl.toV v_4.2.2.2.2.1, Sl.toV v_4.2.2.2.2.2]) ∧
 cL v_6 m0.1 v_4 h2 fun v_7 h3 =>
 Q v_7 h3
def aw (s0 : Sl) (f_c : Addr) (f_c_1 : Addr) (h : Heap) (Q : Int → Heap → Prop) : Prop :=
 loop (fun (s0u1 : Int) h0 (K0 : Int → Heap → Prop) =>
 iteB (decide (s0u1 < (s0.len : Int))) (
 idxS s0 s0u1 4 fun a =>
 aD ai 4 a h0 fun v =>
 gb v f_c f_c_1 h0 fun v_1 h1 =>
 iteB v_1 (
 Q s0u1 h1
 ) (
 K0 (IntKind.wrap .i64 (s0u1 + 1)) h1
 )
 ) (
 Q (-1) h0
 )
 ) 0 h
def dQ (t0 : (Option Addr)) (row : Int) (upper : Bool) (h : Heap) (Q : Sl → Heap → Prop) : Prop :=
 aJ t0 fun a =>
 Lift.load Sl.toV (a.add 0) h fun v =>
 idxS v row 1 fun a_1 =>
 Lift.load (Value.int .i64) a_1 h fun v_1 =>
 bU t0 upper h fun v_2 h0 =>
 (cell? h0 (a.add 0) = some (Sl.toV v)) ∧
 (cell? h0 a_1 = some (Value.int .i64 v_1)) ∧
 idxS v_2.1 v_1 7 fun a_2 =>
 Lift.load (Value.int .i64) (a_2.add 0) h0 fun v_3 =>
 cr 1 h0 fun v_4 h1 =>
 new [Value.int .i64 v_3, Value.bool v_4.1, Sl.toV v_4.2.1, Sl.toV v_4.2.2] h1 fun a_3 h2 =>
 Let ((⟨some a_3, 1, 1⟩ : Sl) : Sl) fun out =>
 aJ t0 fun a_4 =>
 Lift.load Sl.toV (a_4.add 1) h2 fun v_6 =>
 idxS v_6 row 4 fun a_5 =>
 Lift.load Sl.toV (a_5.add 3) h2 fun v_7 =>
 loop (fun (s0 : Sl × Int) h3 (K0 : (Sl × Int) → Heap → Prop) =>
 iteB (decide (s0.2 < (v_7.len : Int))) (
 idxS v_7 s0.2 4 fun a_6 =>
 aD ai 4 a_6 h3 fun v_8 =>
 mem h3 fun h4 =>
 mem h4 fun h5 =>
 seq (fun (K0u1 : (Bool × Sl × Sl) → Heap → Prop) =>
 bF (v_8.2.1, v_8.2.2.1, v_8.2.2.2) h5 fun v_9 h7 =>
 iteB (decide (v_9 < 0)) (
 gh (v_8.2.1, v_8.2.2.1, v_8.2.2.2) h7 fun v_10 h8 =>
 K0u1 v_10 h8
 ) (
 K0u1 (v_8.2.1, v_8.2.2.1, v_8.2.2.2) h7
 )
 ) (fun t0u1 h6 =>
 ff v_8 upper h6 fun v_11 h9 =>
 bU t0 v_11 h9 fun v_12 h10 =>
 idxS v_12.1 v_8.1 7 fun a_7 =>
 Lift.load (Value.int .i64) (a_7.add 0) h10 fun v_13 =>
 new [Value.int .i64 v_13, Value.bool t0u1.1, Sl.toV t0u1.2.1, Sl.toV t0u1.2.2] h10 fun a_8 h11 =>
 aK 4 64 s0.1 (⟨some a_8, 1, 1⟩ : Sl) h11 fun v_15 h12 =>
 K0 (v_15, IntKind.wrap .i64 (s0.2 + 1)) h12
 )
 ) (
 Q s0.1 h3
 )
 ) (out, 0) h2
def i6 (b : (Option Addr)) (x0 : Bool × Sl × Sl) (y : Bool × Sl × Sl) (h : Heap) (Q : (Bool × Sl × Sl) → Heap → Prop) : Prop :=
 mem h fun h0 =>
 bF y h0 fun v h1 =>
 iteB (v == 0) (
 Q (false, Sl.nil, Sl.nil) h1
 ) (
 cg h1 fun v_1 h2 =>
 bM y h2 fun v_2 h3 =>
 aR v_1 x0.2.1 v_2 h3 fun v_3 h4 =>
 bM x0 h4 fun v_4 h5 =>
 aR v_1 v_4 y.2.1 h5 fun v_5 h6 =>
 du (!(x0.1 == y.1)) v_3 v_5 h6 fun v_6 h7 =>
 eN b v_6 h7 fun v_7 h8 =>
 Q v_7 h8
 )
def lT (v : Int) (h : Heap) (Q : (Bool × Sl × Sl × Sl) → Heap → Prop) : Prop :=
 mem h fun h0 =>
 cr 1 h0 fun v_1 h1 =>
 new [Value.int .i64 v, Value.bool v_1.1, Sl.toV v_1.2.1, Sl.toV v_1.2.2] h1 fun a h2 =>
 Q (false, Sl.nil, Sl.nil, (⟨some a, 1, 1⟩ : Sl)) h2
def ck (x0 : Bool × Sl × Sl) (c0 : Addr) (c1 : Addr) (h : Heap) (Q : (Bool × Sl × Sl) → Heap → Prop) : Prop :=
 mem h fun h0 =>
 Lift.load Value.pointer c0 h0 fun v =>
 aD aA 3 c1 h0 fun v_1 =>
 eK v v_1 x0 h0 fun v_2 h1 =>
 Q v_2 h1
def eX (b : (Option Addr)) (p : Bool × Sl × Sl × Sl) (h : Heap) (Q : (Bool × Sl × Sl × Sl) → Heap → Prop) : Prop :=
 mem h fun h0 =>
 aI b h0 fun v h1 =>
 iteB v (
 Q (false, Sl.nil, Sl.nil, Sl.nil) h1
 ) (
 Q p h1
 )
def dY (b : (Option Addr)) (k : Bool × Sl × Sl) (p : Bool × Sl × Sl × Sl) (h : Heap) (Q : (Bool × Sl × Sl × Sl) → Heap → Prop) : Prop :=
 new [Value.pointer b] h fun b_1 h0 =>
 new [Value.bool k.1, Sl.toV k.2.1, Sl.toV k.2.2] h0 fun k_1 h1 =>
 mem h1 fun h2 =>
 aD aA 3 k_1 h2 fun v =>
 bF v h2 fun v_1 h3 =>
 iteB (v_1 == 0) (
 Q (false, Sl.nil, Sl.nil, Sl.nil) h3
 ) (
 ck (p.1, p.2.1, p.2.2.1) b_1 k_1 h3 fun v_2 h4 =>
 mem h4 fun h5 =>
 loop (fun (s0 : Int × Bool × Sl × Sl × Sl) h6 (K0 : (Int × Bool × Sl × Sl × Sl) → Heap → Prop) =>
 iteB (decide (s0.1 < (p.2.2.2.len : Int))) (
 idxS p.2.2.2 s0.1 4 fun a =>
 aD ai 4 a h6 fun v_3 =>
 mem h6 fun h7 =>
 ck (v_3.2.1, v_3.2.2.1, v_3.2.2.2) b_1 k_1 h7 fun v_4 h8 =>
 new [Value.int .i64 v_3.1, Value.bool v_4.1, Sl.toV v_4.2.1, Sl.toV v_4.2.2] h8 fun a_1 h9 =>
 aK 4 64 s0.2.2.2.2 (⟨some a_1, 1, 1⟩ : Sl) h9 fun v_6 h10 =>
 K0 (IntKind.wrap .i64 (s0.1 + 1), s0.2.1, s0.2.2.1, s0.2.2.2.1, v_6) h10
 ) (
 Lift.load Value.pointer b_1 h6 fun v_7 =>
 eX v_7 (s0.2.1, s0.2.2.1, s0.2.2.2.1, s0.2.2.2.2) h6 fun v_8 h11 =>
 Q v_8 h11
 )
 ) (0, v_2.1, v_2.2.1, v_2.2.2, Sl.nil) h5
 )
def cF (p : Bool × Sl × Sl × Sl) (v : Int) (h : Heap) (Q : (Bool × Sl × Sl × Sl) → Heap → Prop) : Prop :=
 mem h fun h0 =>
 mem h0 fun h1 =>
 loop (fun (s0 : Int × Bool × Sl × Sl × Sl) h2 (K0 : (Int × Bool × Sl × Sl × Sl) → Heap → Prop) =>
 iteB (decide (s0.1 < (p.2.2.2.len : Int))) (
 seq (fun (K0u1 : (Bool × Sl × Sl × Sl) → Heap → Prop) =>
 idxS p.2.2.2 s0.1 4 fun a =>
 aD ai 4 a h2 fun v_1 =>
 mem h2 fun h4 =>
 iteB (v_1.1 != v) (
 new [Value.int .i64 v_1.1, Value.bool v_1.2.1, Sl.toV v_1.2.2.1, Sl.toV v_1.2.2.2] h4 fun a_1 h5 =>
 aK 4 64 s0.2.2.2.2 (⟨some a_1, 1, 1⟩ : Sl) h5 fun v_3 h6 =>
 K0u1 (s0.2.1, s0.2.2.1, s0.2.2.2.1, v_3) h6
 ) (
 K0u1 (s0.2.1, s0.2.2.1, s0.2.2.2.1, s0.2.2.2.2) h4
 )
 ) (fun t0 h3 =>
 K0 (IntKind.wrap .i64 (s0.1 + 1), t0.1, t0.2.1, t0.2.2.1, t0.2.2.2) h3
 )
 ) (
 Q (s0.2.1, s0.2.2.1, s0.2.2.2.1, s0.2.2.2.2) h2
 )
 ) (0, p.1, p.2.1, p.2.2.1, Sl.nil) h1
def gU (b : (Option Addr)) (p : Bool × Sl × Sl × Sl) (k : Bool × Sl × Sl) (q : Bool × Sl × Sl × Sl) (h : Heap) (Q : (Bool × Sl × Sl × Sl) → Heap → Prop) : Prop :=
 mem h fun h0 =>
 dY b k q h0 fun v h1 =>
 cV b (p.1, p.2.1, p.2.2.1) (v.1, v.2.1, v.2.2.1) h1 fun v_1 h2 =>
 mem h2 fun h3 =>
 loop (fun (s0 : Sl × Sl × Bool × Sl × Sl × Sl) h4 (K0 : (Sl × Sl × Bool × Sl × Sl × Sl) → Heap → Prop) =>
 seq (fun (K0u1 : Bool → Heap → Prop) =>
 iteB (decide ((s0.1.len : Int) > 0)) (
 K0u1 true h4
 ) (
 K0u1 (decide ((s0.2.1.len : Int) > 0)) h4
 )
 ) (fun t0 h5 =>
 iteB t0 (
 mem h5 fun h6 =>
 seq (fun (K0u2 : (Sl × Sl × Int × Bool × Sl × Sl) → Heap → Prop) =>
 seq (fun (K0u3 : Bool → Heap → Prop) =>
 iteB ((s0.2.1.len : Int) == 0) (
 K0u3 true h6
 ) (
 iteB (decide ((s0.1.len : Int) > 0)) (
 idxS s0.1 0 4 fun a =>
 Lift.load (Value.int .i64) (a.add 0) h6 fun v_2 =>
 idxS s0.2.1 0 4 fun a_1 =>
 Lift.load (Value.int .i64) (a_1.add 0) h6 fun v_3 =>
 K0u3 (decide (v_2 < v_3)) h6
 ) (
 K0u3 false h6
 )
 )
 ) (fun t0u2 h8 =>
 iteB t0u2 (
 idxS s0.1 0 4 fun a_2 =>
 aD ai 4 a_2 h8 fun v_4 =>
 sliceOf s0.1 (some 1) none none 4 fun v_5 =>
 K0u2 (v_5, s0.2.1, v_4.1, v_4.2.1, v_4.2.2.1, v_4.2.2.2) h8
 ) (
 seq (fun (K0u4 : Bool → Heap → Prop) =>
 iteB ((s0.1.len : Int) == 0) (
 K0u4 true h8
 ) (
 idxS s0.1 0 4 fun a_3 =>
 Lift.load (Value.int .i64) (a_3.add 0) h8 fun v_6 =>
 idxS s0.2.1 0 4 fun a_4 =>
 Lift.load (Value.int .i64) (a_4.add 0) h8 fun v_7 =>
 K0u4 (decide (v_6 > v_7)) h8
 )
 ) (fun t0u3 h9 =>
 iteB t0u3 (
 idxS s0.2.1 0 4 fun a_5 =>
 aD ai 4 a_5 h9 fun v_8 =>
 sliceOf s0.2.1 (some 1) none none 4 fun v_9 =>
 K0u2 (s0.1, v_9, v_8.1, v_8.2.1, v_8.2.2.1, v_8.2.2.2) h9
 ) (
 idxS s0.1 0 4 fun a_6 =>
 Lift.load (Value.int .i64) (a_6.add 0) h9 fun v_10 =>
 idxS s0.1 0 4 fun a_7 =>
 aD aA 3 (a_7.add 1) h9 fun v_11 =>
 idxS s0.2.1 0 4 fun a_8 =>
 aD aA 3 (a_8.add 1) h9 fun v_12 =>
 cV b v_11 v_12 h9 fun v_13 h10 =>
 (cell? h10 (a_6.add 0) = some (Value.int .i64 v_10)) ∧
 sliceOf s0.1 (some 1) none none 4 fun v_14 =>
 sliceOf s0.2.1 (some 1) none none 4 fun v_15 =>
 K0u2 (v_14, v_15, v_10, v_13.1, v_13.2.1, v_13.2.2) h10
 )
 )
 )
 )
 ) (fun t0u1 h7 =>
 bF (t0u1.2.2.2.1, t0u1.2.2.2.2.1, t0u1.2.2.2.2.2) h7 fun v_16 h11 =>
 iteB (v_16 != 0) (
 new [Value.int .i64 t0u1.2.2.1, Value.bool t0u1.2.2.2.1, Sl.toV t0u1.2.2.2.2.1, Sl.toV t0u1.2.2.2.2.2] h11 fun a_9 h12 =>
 aK 4 64 s0.2.2.2.2.2 (⟨some a_9, 1, 1⟩ : Sl) h12 fun v_18 h13 =>
 K0 (t0u1.1, t0u1.2.1, s0.2.2.1, s0.2.2.2.1, s0.2.2.2.2.1, v_18) h13
 ) (
 K0 (t0u1.1, t0u1.2.1, s0.2.2.1, s0.2.2.2.1, s0.2.2.2.2.1, s0.2.2.2.2.2) h11
 )
 )
 ) (
 eX b (s0.2.2.1, s0.2.2.2.1, s0.2.2.2.2.1, s0.2.2.2.2.2) h5 fun v_19 h14 =>
 Q v_19 h14
 )
 )
 ) (p.2.2.2, v.2.2.2, v_1.1, v_1.2.1, v_1.2.2, Sl.nil) h3
def bX (s0 : Sl) (h : Heap) (Q : Sl → Heap → Prop) : Prop :=
 iteB s0.a.isNone (
 Q Sl.nil h
 ) (
 new [] h fun a h0 =>
 aK 1 8 (⟨some a, 0, 0⟩ : Sl) s0 h0 fun v_1 h1 =>
 Q v_1 h1
 )
def fg (b : (Option Addr)) (t0 : (Option Addr)) (row : Int) (v : Int) (h : Heap) (Q : Int → Heap → Prop) : Prop :=
 seq (fun (K0 : Bool → Heap → Prop) =>
 iteB (decide (row < 0)) (
 K0 true h
 ) (
 aJ t0 fun a =>
 Lift.load Sl.toV (a.add 1) h fun v_1 =>
 K0 (decide (row ≥ (v_1.len : Int))) h
 )
 ) (fun t0u1 h0 =>
 iteB t0u1 (
 Q 2 h0
 ) (
 aJ t0 fun a_1 =>
 Lift.load Sl.toV (a_1.add 1) h0 fun v_2 =>
 idxS v_2 row 4 fun a_2 =>
 aD ah 4 a_2 h0 fun v_3 =>
 cU v_3 v h0 fun v_4 h1 =>
 mem h1 fun h2 =>
 bF v_4 h2 fun v_5 h3 =>
 iteB (v_5 == 0) (
 Q 1 h3
 ) (
 aJ t0 fun a_3 =>
 Lift.load Sl.toV (a_3.add 0) h3 fun v_6 =>
 idxS v_6 row 1 fun a_4 =>
 Lift.load (Value.int .i64) a_4 h3 fun v_7 =>
 seq (fun (K0u1 : (Bool × Sl × Sl) → Heap → Prop) =>
 mem h3 fun h5 =>
 cr 1 h5 fun v_11 h12 =>
 mem h12 fun h13 =>
 i6 b v_11 v_4 h13 fun v_12 h14 =>
 mem h14 fun h15 =>
 K0u1 v_12 h15
 ) (fun t0u2 h4 =>
 seq (fun (K0u2 : (Bool × Sl × Sl × Sl) → Heap → Prop) =>
 aJ t0 fun a_5 =>
 Lift.load Sl.toV (a_5.add 1) h4 fun v_13 =>
 idxS v_13 row 4 fun a_6 =>
 aD ah 4 a_6 h4 fun v_14 =>
 mem h4 fun h17 =>
 lT v_7 h17 fun v_30 h48 =>
 (cell? h48 (a_5.add 1) = some (Sl.toV v_13)) ∧
 (cells? h48 a_6 4 0 = some [Value.bool v_14.1, Sl.toV v_14.2.1, Sl.toV v_14.2.2.1, Sl.toV v_14.2.2.2]) ∧
 mem h48 fun h49 =>
 dY b t0u2 v_30 h49 fun v_31 h50 =>
 (cell? h50 (a_5.add 1) = some (Sl.toV v_13)) ∧
 (cells? h50 a_6 4 0 = some [Value.bool v_14.1, Sl.toV v_14.2.1, Sl.toV v_14.2.2.1, Sl.toV v_14.2.2.2]) ∧
 mem h50 fun h51 =>
 gh t0u2 h51 fun v_32 h52 =>
 (cell? h52 (a_5.add 1) = some (Sl.toV v_13)) ∧
 (cells? h52 a_6 4 0 = some [Value.bool v_14.1, Sl.toV v_14.2.1, Sl.toV v_14.2.2.1, Sl.toV v_14.2.2.2]) ∧
 mem h52 fun h53 =>
 cF v_14 v h53 fun v_33 h54 =>
 mem h54 fun h55 =>
 gU b v_31 v_32 v_33 h55 fun v_34 h56 =>
 mem h56 fun h57 =>
 K0u2 v_34 h57
 ) (fun t0u3 h16 =>
 aJ t0 fun a_7 =>
 Lift.load Sl.toV (a_7.add 1) h16 fun v_35 =>
 aL v_35 h16 fun v_36 h58 =>
 aJ t0 fun a_8 =>
 Lift.load Sl.toV (a_8.add 1) h58 fun v_37 =>
 loop (fun (s0 : Int) h59 (K0u3 : Int → Heap → Prop) =>
 iteB (decide (s0 < (v_37.len : Int))) (
 seq (fun (K0u4 : Unit → Heap → Prop) =>
 idxS v_37 s0 4 fun a_9 =>
 aD ah 4 a_9 h59 fun v_38 =>
 mem h59 fun h61 =>
 cU v_38 v h61 fun v_39 h62 =>
 mem h62 fun h63 =>
 bF v_39 h63 fun v_40 h64 =>
 iteB (v_40 != 0) (
 cF v_38 v h64 fun v_41 h65 =>
 gU b v_41 v_39 t0u3 h65 fun v_42 h66 =>
 idxS v_36 s0 4 fun a_10 =>
 dU a_10 [Value.bool v_42.1, Sl.toV v_42.2.1, Sl.toV v_42.2.2.1, Sl.toV v_42.2.2.2] h66 fun h67 =>
 K0u4 () h67
 ) (
 K0u4 () h64
 )
 ) (fun t0u4 h60 =>
 K0u3 (IntKind.wrap .i64 (s0 + 1)) h60
 )
 ) (
 idxS v_36 row 4 fun a_11 =>
 dU a_11 [Value.bool t0u3.1, Sl.toV t0u3.2.1, Sl.toV t0u3.2.2.1, Sl.toV t0u3.2.2.2] h59 fun h68 =>
 aJ t0 fun a_12 =>
 Lift.load Sl.toV (a_12.add 0) h68 fun v_43 =>
 bX v_43 h68 fun v_44 h69 =>
 aJ t0 fun a_13 =>
 Lift.ady (a_13.add 1) (Sl.toV v_36) h69 fun h70 =>
 aJ t0 fun a_14 =>
 Lift.ady (a_14.add 0) (Sl.toV v_44) h70 fun h71 =>
 aJ t0 fun a_15 =>
 Lift.load Sl.toV (a_15.add 0) h71 fun v_45 =>
 idxS v_45 row 1 fun a_16 =>
 Lift.ady a_16 (Value.int .i64 v) h71 fun h72 =>
 fY b h72 fun v_46 h73 =>
 Q v_46 h73
 )
 ) 0 h58
 )
 )
 )
 )
 )
def gB (b : (Option Addr)) (t0 : (Option Addr)) (h : Heap) (Q : (Int × Sl × Int) → Heap → Prop) : Prop :=
 new [Value.pointer t0] h fun t0u1 h0 =>
 Lift.load Value.pointer t0u1 h0 fun v =>
 fE v h0 fun v_1 h1 =>
 new [Value.bool false] h1 fun upper h2 =>
 Lift.ady upper (Value.bool v_1.2) h2 fun h3 =>
 iteB (decide (v_1.1 < 0)) (
 Q (0, Sl.nil, 0) h3
 ) (
 Lift.load Value.pointer t0u1 h3 fun v_2 =>
 aJ v_2 fun a =>
 Lift.load Sl.toV (a.add 1) h3 fun v_3 =>
 idxS v_3 v_1.1 4 fun a_1 =>
 Lift.load Sl.toV (a_1.add 3) h3 fun v_4 =>
 aw v_4 t0u1 upper h3 fun v_5 h4 =>
 iteB (decide (v_5 < 0)) (
 Lift.load Value.pointer t0u1 h4 fun v_6 =>
 Lift.load Value.bool upper h4 fun v_7 =>
 dQ v_6 v_1.1 v_7 h4 fun v_8 h5 =>
 Q (2, v_8, 0) h5
 ) (
 idxS v_4 v_5 4 fun a_2 =>
 aD ai 4 a_2 h4 fun v_9 =>
 Lift.load Value.pointer t0u1 h4 fun v_10 =>
 aJ v_10 fun a_3 =>
 Lift.load Sl.toV (a_3.add 0) h4 fun v_11 =>
 idxS v_11 v_1.1 1 fun a_4 =>
 Lift.load (Value.int .i64) a_4 h4 fun v_12 =>
 mem h4 fun h6 =>
 seq (fun (K0 : (Bool × Sl × Sl × Bool × Sl × Sl) → Heap → Prop) =>
 Lift.load Value.pointer t0u1 h6 fun v_13 =>
 Lift.load Value.bool upper h6 fun v_14 =>
 Lift.load Value.pointer t0u1 h6 fun v_15 =>
 aJ v_15 fun a_5 =>
 Lift.load Sl.toV (a_5.add 2) h6 fun v_16 =>
 idxS v_16 v_12 6 fun a_6 =>
 aD aa 6 a_6 h6 fun v_17 =>
 mem h6 fun h8 =>
 bU v_13 v_14 h8 fun v_22 h15 =>
 (cell? h15 t0u1 = some (Value.pointer v_15)) ∧
 (cell? h15 (a_5.add 2) = some (Sl.toV v_16)) ∧
 (cells? h15 a_6 6 0 = some [Value.bool v_17.1, Sl.toV v_17.2.1, Sl.toV v_17.2.2.1, Value.bool v_17.2.2.2.1, Sl.toV v_17.2.2.2.2.1, Sl.toV v_17.2.2.2.2.2]) ∧
 idxS v_22.1 v_12 7 fun a_8 =>
 aD aa 6 (a_8.add 1) h15 fun v_23 =>
 mem h15 fun h16 =>
 jn b v_23 v_17 h16 fun v_24 h17 =>
 mem h17 fun h18 =>
 K0 v_24 h18
 ) (fun t0u2 h7 =>
 seq (fun (K0u1 : (Bool × Sl × Sl × Bool × Sl × Sl) → Heap → Prop) =>
 mem h7 fun h20 =>
 cr 1 h20 fun v_31 h33 =>
 mem h33 fun h34 =>
 i6 b v_31 (v_9.2.1, v_9.2.2.1, v_9.2.2.2) h34 fun v_32 h35 =>
 mem h35 fun h36 =>
 fD b v_32 t0u2 h36 fun v_33 h37 =>
 mem h37 fun h38 =>
 K0u1 v_33 h38
 ) (fun t0u3 h19 =>
 Lift.load Value.pointer t0u1 h19 fun v_34 =>
 Lift.load Value.pointer t0u1 h19 fun v_35 =>
 aJ v_35 fun a_9 =>
 Lift.load Sl.toV (a_9.add 2) h19 fun v_36 =>
 idxS v_36 v_9.1 6 fun a_10 =>
 aD aa 6 a_10 h19 fun v_37 =>
 i8 b v_37 t0u3 h19 fun v_38 h39 =>
 (cell? h39 t0u1 = some (Value.pointer v_34)) ∧
 cQ b v_34 v_9.1 v_38 h39 fun v_39 h40 =>
 Lift.load Value.pointer t0u1 h40 fun v_40 =>
 fg b v_40 v_1.1 v_9.1 h40 fun v_41 h41 =>
 aI b h41 fun v_42 h42 =>
 iteB v_42 (
 Q (0, Sl.nil, 6) h42
 ) (
 Q (1, Sl.nil, 0) h42
 )
 )
 )
 )
 )
def dl (b : (Option Addr)) (t0 : (Option Addr)) (h : Heap) (Q : (Sl × Int) → Heap → Prop) : Prop :=
 loop (fun (s0 : Unit) h0 (K0 : Unit → Heap → Prop) =>
 gB b t0 h0 fun v h1 =>
 iteB (v.1 != 1) (
 Q (v.2.1, v.2.2) h1
 ) (
 K0 () h1
 )
 ) () h
def cR (h : Heap) (Q : Bool → Heap → Prop) : Prop :=
 cr 1 h fun v h0 =>
 mem h0 fun h1 =>
 new [Value.int .i64 0, Value.bool v.1, Sl.toV v.2.1, Sl.toV v.2.2, Value.int .i64 1, Value.bool v.1, Sl.toV v.2.1, Sl.toV v.2.2] h1 fun a h2 =>
 new [Value.bool false, Sl.toV Sl.nil, Sl.toV Sl.nil, Sl.toV (⟨some a, 2, 2⟩ : Sl)] h2 fun a_1 h3 =>
 fC (0, 2, (⟨some a_1, 1, 1⟩ : Sl), Sl.nil, Sl.nil, Sl.nil, Sl.nil) h3 fun v_3 h4 =>
 new [Sl.toV Sl.nil, Sl.toV Sl.nil, Sl.toV Sl.nil, Sl.toV Sl.nil, Sl.toV Sl.nil] h4 fun t0 h5 =>
 dU t0 [Sl.toV v_3.1, Sl.toV v_3.2.1, Sl.toV v_3.2.2.1, Sl.toV v_3.2.2.2.1, Sl.toV v_3.2.2.2.2] h5 fun h6 =>
 mN 4 h6 fun v_4 h7 =>
 js 1 h7 fun v_5 h8 =>
 bR v_4 (some t0) 0 false (1, v_5.1, v_5.2.1, v_5.2.2.1, v_5.2.2.2.1, v_5.2.2.2.2.1, v_5.2.2.2.2.2) h8 fun v_6 h9 =>
 js 1 h9 fun v_7 h10 =>
 bR v_4 (some t0) 1 false (2, v_7.1, v_7.2.1, v_7.2.2.1, v_7.2.2.2.1, v_7.2.2.2.2.1, v_7.2.2.2.2.2) h10 fun v_8 h11 =>
 js 1 h11 fun v_9 h12 =>
 bR v_4 (some t0) 2 true (3, v_9.1, v_9.2.1, v_9.2.2.1, v_9.2.2.2.1, v_9.2.2.2.2.1, v_9.2.2.2.2.2) h12 fun v_10 h13 =>
 dl v_4 (some t0) h13 fun v_11 h14 =>
 seq (fun (K0 : Bool → Heap → Prop) =>
 iteB (v_11.2 == 0) (
 iteB ((v_11.1.len : Int) == 3) (
 idxS v_11.1 0 4 fun a_2 =>
 Lift.load (Value.int .i64) (a_2.add 0) h14 fun v_12 =>
 K0 (v_12 == 3) h14
 ) (
 K0 false h14
 )
 ) (
 K0 false h14
 )
 ) (fun t0u1 h15 =>
 Q t0u1 h15
 )
def b9 (l : Sl) (h : Heap) (Q : Bool → Heap → Prop) : Prop :=
 loop (fun (s0 : Int) h0 (K0 : Int → Heap → Prop) =>
 iteB (decide (s0 < (l.len : Int))) (
 idxS l s0 3 fun a =>
 aD aA 3 a h0 fun v =>
 mem h0 fun h1 =>
 seq (fun (K0u1 : Bool → Heap → Prop) =>
 iteB (decide ((v.2.1.len : Int) > 6)) (
 K0u1 true h1
 ) (
 K0u1 (decide ((v.2.2.len : Int) > 6)) h1
 )
 ) (fun t0 h2 =>
 iteB t0 (
 Q true h2
 ) (
 K0 (IntKind.wrap .i64 (s0 + 1)) h2
 )
 )
 ) (
 Q false h0
 )
 ) 0 h
def bY (x0 : Sl) (h : Heap) (Q : Sl → Heap → Prop) : Prop :=
 Let ((x0.len : Int) : Int) fun n =>
 loop (fun (s0 : Int) h0 (K0 : Int → Heap → Prop) =>
 seq (fun (K0u1 : Bool → Heap → Prop) =>
 iteB (decide (s0 > 0)) (
 idxS x0 (IntKind.wrap .i64 (s0 - 1)) 1 fun a =>
 Lift.load (Value.int .i64) a h0 fun v =>
 K0u1 (v == 0) h0
 ) (
 K0u1 false h0
 )
 ) (fun t0 h1 =>
 iteB t0 (
 Let (IntKind.wrap .i64 (s0 - 1) : Int) fun n_1 =>
 K0 n_1 h1
 ) (
 sliceOf x0 none (some s0) none 1 fun v_1 =>
 Q v_1 h1
 )
 )
 ) n h
def iW (x0 : Sl) (h : Heap) (Q : Sl → Heap → Prop) : Prop :=
 new [] h fun a h0 =>
 Let ((⟨some a, 0, 0⟩ : Sl) : Sl) fun out =>
 Let (IntKind.wrap .i64 ((x0.len : Int) - 1) : Int) fun i =>
 loop (fun (s0 : Sl × Int) h1 (K0 : (Sl × Int) → Heap → Prop) =>
 iteB (decide (s0.2 ≥ 0)) (
 idxS x0 s0.2 1 fun a_1 =>
 Lift.load (Value.int .u32) a_1 h1 fun v_1 =>
 Let (IntKind.wrap .i64 v_1 : Int) fun carry =>
 loop (fun (s0u1 : Int × Int) h2 (K0u1 : (Int × Int) → Heap → Prop) =>
 iteB (decide (s0u1.2 < (s0.1.len : Int))) (
 idxS s0.1 s0u1.2 1 fun a_2 =>
 Lift.load (Value.int .i64) a_2 h2 fun v_2 =>
 Let (IntKind.wrap .i64 ((IntKind.wrap .i64 (v_2 * 4294967296)) + s0u1.1) : Int) fun n =>
 idxS s0.1 s0u1.2 1 fun a_3 =>
 Lift.ady a_3 (Value.int .i64 (Int.tmod n 10)) h2 fun h3 =>
 Let (IntKind.wrap .i64 (Int.tdiv n 10) : Int) fun carry_1 =>
 Let (IntKind.wrap .i64 (s0u1.2 + 1) : Int) fun k =>
 K0u1 (carry_1, k) h3
 ) (
 loop (fun (s0u2 : Sl × Int) h4 (K0u2 : (Sl × Int) → Heap → Prop) =>
 iteB (decide (s0u2.2 > 0)) (
 new [Value.int .i64 (Int.tmod s0u2.2 10)] h4 fun a_4 h5 =>
 aK 1 8 s0u2.1 (⟨some a_4, 1, 1⟩ : Sl) h5 fun v_4 h6 =>
 Let (IntKind.wrap .i64 (Int.tdiv s0u2.2 10) : Int) fun carry_2 =>
 K0u2 (v_4, carry_2) h6
 ) (
 Let (IntKind.wrap .i64 (s0.2 - 1) : Int) fun i_1 =>
 K0 (s0u2.1, i_1) h4
 )
 ) (s0.1, s0u1.1) h2
 )
 ) (carry, 0) h1
 ) (
 bY s0.1 h1 fun v_5 h7 =>
 Q v_5 h7
 )
 ) (out, i) h0
def eZ (x0 : Bool × Sl × Sl) (h : Heap) (Q : (Bool × Sl × Sl) → Heap → Prop) : Prop :=
 mem h fun h0 =>
 seq (fun (K0 : (Bool × Sl × Sl) → Heap → Prop) =>
 mem h0 fun h2 =>
 iW x0.2.1 h2 fun v_3 h9 =>
 mem h9 fun h10 =>
 iW x0.2.2 h10 fun v_4 h11 =>
 mem h11 fun h12 =>
 K0 (x0.1, v_3, v_4) h12
 ) (fun t0 h1 =>
 seq (fun (K0u1 : (Bool × Sl × Sl) → Heap → Prop) =>
 iteB ((t0.2.2.len : Int) == 0) (
 new [Value.int .i64 1] h1 fun a h14 =>
 K0u1 (t0.1, t0.2.1, (⟨some a, 1, 1⟩ : Sl)) h14
 ) (
 K0u1 t0 h1
 )
 ) (fun t0u1 h13 =>
 Q t0u1 h13
 )
 )
def lA (n : Int) (h : Heap) (Q : (Bool × Sl × Sl) → Heap → Prop) : Prop :=
 mem h fun h0 =>
 new [] h0 fun a h1 =>
 new [Value.int .i64 1] h1 fun a_1 h2 =>
 mem h2 fun h3 =>
 seq (fun (K0 : Int → Heap → Prop) =>
 iteB (decide (n < 0)) (
 Let (IntKind.wrap .i64 (0 - n) : Int) fun n_1 =>
 K0 n_1 h3
 ) (
 K0 n h3
 )
 ) (fun t0 h4 =>
 loop (fun (s0 : Int × Bool × Sl × Sl) h5 (K0u1 : (Int × Bool × Sl × Sl) → Heap → Prop) =>
 iteB (decide (s0.1 > 0)) (
 new [Value.int .i64 (Int.tmod s0.1 10)] h5 fun a_2 h6 =>
 aK 1 8 s0.2.2.1 (⟨some a_2, 1, 1⟩ : Sl) h6 fun v_3 h7 =>
 Let (IntKind.wrap .i64 (Int.tdiv s0.1 10) : Int) fun n_2 =>
 K0u1 (n_2, s0.2.1, v_3, s0.2.2.2) h7
 ) (
 Q (s0.2.1, s0.2.2.1, s0.2.2.2) h5
 )
 ) (t0, decide (n < 0), (⟨some a, 0, 0⟩ : Sl), (⟨some a_1, 1, 1⟩ : Sl)) h4
 )
def d8 (x0 : Sl) (y : Sl) (h : Heap) (Q : Int → Heap → Prop) : Prop :=
 iteB ((x0.len : Int) != (y.len : Int)) (
 iteB (decide ((x0.len : Int) < (y.len : Int))) (
 Q (-1) h
 ) (
 Q 1 h
 )
 ) (
 Let (IntKind.wrap .i64 ((x0.len : Int) - 1) : Int) fun i =>
 loop (fun (s0 : Int) h0 (K0 : Int → Heap → Prop) =>
 iteB (decide (s0 ≥ 0)) (
 idxS x0 s0 1 fun a =>
 Lift.load (Value.int .i64) a h0 fun v =>
 idxS y s0 1 fun a_1 =>
 Lift.load (Value.int .i64) a_1 h0 fun v_1 =>
 iteB (decide (v < v_1)) (
 Q (-1) h0
 ) (
 idxS x0 s0 1 fun a_2 =>
 Lift.load (Value.int .i64) a_2 h0 fun v_2 =>
 idxS y s0 1 fun a_3 =>
 Lift.load (Value.int .i64) a_3 h0 fun v_3 =>
 iteB (decide (v_2 > v_3)) (
 Q 1 h0
 ) (
 Let (IntKind.wrap .i64 (s0 - 1) : Int) fun i_1 =>
 K0 i_1 h0
 )
 )
 ) (
 Q 0 h0
 )
 ) i h
 )
def eG (x0 : Sl) (y : Sl) (h : Heap) (Q : Sl → Heap → Prop) : Prop :=
 d8 x0 y h fun v h0 =>
 iteB (decide (v < 0)) (
 new [] h0 fun a h1 =>
 Q (⟨some a, 0, 0⟩ : Sl) h1
 ) (
 new [] h0 fun a_1 h2 =>
 Let ((⟨some a_1, 0, 0⟩ : Sl) : Sl) fun out =>
 loop (fun (s0 : Sl × Int × Int) h3 (K0 : (Sl × Int × Int) → Heap → Prop) =>
 iteB (decide (s0.2.2 < (x0.len : Int))) (
 idxS x0 s0.2.2 1 fun a_2 =>
 Lift.load (Value.int .i64) a_2 h3 fun v_3 =>
 Let (IntKind.wrap .i64 (v_3 - s0.2.1) : Int) fun n =>
 seq (fun (K0u1 : Int → Heap → Prop) =>
 iteB (decide (s0.2.2 < (y.len : Int))) (
 idxS y s0.2.2 1 fun a_3 =>
 Lift.load (Value.int .i64) a_3 h3 fun v_4 =>
 Let (IntKind.wrap .i64 (n - v_4) : Int) fun n_1 =>
 K0u1 n_1 h3
 ) (
 K0u1 n h3
 )
 ) (fun t0 h4 =>
 seq (fun (K0u2 : (Int × Int) → Heap → Prop) =>
 iteB (decide (t0 < 0)) (
 Let (IntKind.wrap .i64 (t0 + 10) : Int) fun n_2 =>
 K0u2 (1, n_2) h4
 ) (
 K0u2 (0, t0) h4
 )
 ) (fun t0u1 h5 =>
 new [Value.int .i64 t0u1.2] h5 fun a_4 h6 =>
 aK 1 8 s0.1 (⟨some a_4, 1, 1⟩ : Sl) h6 fun v_6 h7 =>
 Let (IntKind.wrap .i64 (s0.2.2 + 1) : Int) fun i =>
 K0 (v_6, t0u1.1, i) h7
 )
 )
 ) (
 bY s0.1 h3 fun v_7 h8 =>
 Q v_7 h8
 )
 ) (out, 0, 0) h2
 )
def eC (x0 : Sl) (y : Sl) (h : Heap) (Q : (Sl × Sl) → Heap → Prop) : Prop :=
 iteB ((y.len : Int) == 0) (
 new [] h fun a h0 =>
 new [] h0 fun a_1 h1 =>
 Q ((⟨some a, 0, 0⟩ : Sl), (⟨some a_1, 0, 0⟩ : Sl)) h1
 ) (
 Let ((x0.len : Int) : Int) fun t15 =>
 mkS [Value.int .i64 0] 8 t15 t15 h fun v_2 h2 =>
 new [] h2 fun a_2 h3 =>
 Let ((⟨some a_2, 0, 0⟩ : Sl) : Sl) fun r =>
 Let (IntKind.wrap .i64 ((x0.len : Int) - 1) : Int) fun i =>
 loop (fun (s0 : Sl × Int) h4 (K0 : (Sl × Int) → Heap → Prop) =>
 iteB (decide (s0.2 ≥ 0)) (
 idxS x0 s0.2 1 fun a_3 =>
 Lift.load (Value.int .i64) a_3 h4 fun v_4 =>
 new [Value.int .i64 v_4] h4 fun a_4 h5 =>
 aK 1 8 (⟨some a_4, 1, 1⟩ : Sl) s0.1 h5 fun v_6 h6 =>
 bY v_6 h6 fun v_7 h7 =>
 loop (fun (s0u1 : Sl) h8 (K0u1 : Sl → Heap → Prop) =>
 d8 s0u1 y h8 fun v_8 h9 =>
 iteB (decide (v_8 ≥ 0)) (
 eG s0u1 y h9 fun v_9 h10 =>
 idxS v_2 s0.2 1 fun a_5 =>
 Lift.load (Value.int .i64) a_5 h10 fun v_10 =>
 idxS v_2 s0.2 1 fun a_6 =>
 Lift.ady a_6 (Value.int .i64 (IntKind.wrap .i64 (v_10 + 1))) h10 fun h11 =>
 K0u1 v_9 h11
 ) (
 Let (IntKind.wrap .i64 (s0.2 - 1) : Int) fun i_1 =>
 K0 (s0u1, i_1) h9
 )
 ) v_7 h7
 ) (
 bY v_2 h4 fun v_11 h12 =>
 Q (v_11, s0.1) h12
 )
 ) (r, i) h3
 )
def iJ (x0 : Sl) (y : Sl) (h : Heap) (Q : Sl → Heap → Prop) : Prop :=
 loop (fun (s0 : Sl × Sl) h0 (K0 : (Sl × Sl) → Heap → Prop) =>
 iteB (decide ((s0.2.len : Int) > 0)) (
 eC s0.1 s0.2 h0 fun v h1 =>
 K0 (s0.2, v.2) h1
 ) (
 Q s0.1 h0
 )
 ) (x0, y) h
def c9 (r : Bool × Sl × Sl) (h : Heap) (Q : (Bool × Sl × Sl) → Heap → Prop) : Prop :=
 mem h fun h0 =>
 iteB ((r.2.1.len : Int) == 0) (
 lA 0 h0 fun v h1 =>
 Q v h1
 ) (
 iJ r.2.1 r.2.2 h0 fun v_1 h2 =>
 eC r.2.1 v_1 h2 fun v_2 h3 =>
 eC r.2.2 v_1 h3 fun v_3 h4 =>
 Q (r.1, v_2.1, v_3.1) h4
 )
def cM (x0 : Sl) (h : Heap) (Q : Sl → Heap → Prop) : Prop :=
 new [] h fun a h0 =>
 Let ((⟨some a, 0, 0⟩ : Sl) : Sl) fun out =>
 Let (IntKind.wrap .i64 ((x0.len : Int) - 1) : Int) fun i =>
 loop (fun (s0 : Sl × Int) h1 (K0 : (Sl × Int) → Heap → Prop) =>
 iteB (decide (s0.2 ≥ 0)) (
 seq (fun (K0u1 : Sl → Heap → Prop) =>
 idxS x0 s0.2 1 fun a_1 =>
 Lift.load (Value.int .i64) a_1 h1 fun v_1 =>
 Let (IntKind.wrap .u64 v_1 : Int) fun carry =>
 loop (fun (s0u1 : Int × Int) h3 (K0u2 : (Int × Int) → Heap → Prop) =>
 iteB (decide (s0u1.2 < (s0.1.len : Int))) (
 idxS s0.1 s0u1.2 1 fun a_2 =>
 Lift.load (Value.int .u32) a_2 h3 fun v_2 =>
 Let (IntKind.wrap .u64 ((IntKind.wrap .u64 ((IntKind.wrap .u64 v_2) * 10)) + s0u1.1) : Int) fun n =>
 idxS s0.1 s0u1.2 1 fun a_3 =>
 Lift.ady a_3 (Value.int .u32 (IntKind.wrap .u32 (Int.tmod n 4294967296))) h3 fun h4 =>
 Let (IntKind.wrap .u64 (Int.tdiv n 4294967296) : Int) fun carry_1 =>
 Let (IntKind.wrap .i64 (s0u1.2 + 1) : Int) fun k =>
 K0u2 (carry_1, k) h4
 ) (
 iteB (decide (s0u1.1 > 0)) (
 new [Value.int .u32 (IntKind.wrap .u32 s0u1.1)] h3 fun a_4 h5 =>
 aK 1 4 s0.1 (⟨some a_4, 1, 1⟩ : Sl) h5 fun v_4 h6 =>
 K0u1 v_4 h6
 ) (
 K0u1 s0.1 h3
 )
 )
 ) (carry, 0) h1
 ) (fun t0 h2 =>
 Let (IntKind.wrap .i64 (s0.2 - 1) : Int) fun i_1 =>
 K0 (t0, i_1) h2
 )
 ) (
 Q s0.1 h1
 )
 ) (out, i) h0
def jU (r : Bool × Sl × Sl) (h : Heap) (Q : (Bool × Sl × Sl) → Heap → Prop) : Prop :=
 mem h fun h0 =>
 c9 r h0 fun v h1 =>
 seq (fun (K0 : (Bool × Sl × Sl) → Heap → Prop) =>
 mem h1 fun h3 =>
 cM v.2.1 h3 fun v_2 h6 =>
 mem h6 fun h7 =>
 K0 (v.1, v_2, Sl.nil) h7
 ) (fun t0 h2 =>
 seq (fun (K0u1 : (Bool × Sl × Sl) → Heap → Prop) =>
 seq (fun (K0u2 : Bool → Heap → Prop) =>
 iteB ((v.2.2.len : Int) != 1) (
 K0u2 true h2
 ) (
 idxS v.2.2 0 1 fun a =>
 Lift.load (Value.int .i64) a h2 fun v_3 =>
 K0u2 (v_3 != 1) h2
 )
 ) (fun t0u2 h9 =>
 iteB t0u2 (
 cM v.2.2 h9 fun v_4 h10 =>
 K0u1 (t0.1, t0.2.1, v_4) h10
 ) (
 K0u1 t0 h9
 )
 )
 ) (fun t0u1 h8 =>
 Q t0u1 h8
 )
 )
def dr (a : Sl) (b : Sl) (h : Heap) (Q : Bool → Heap → Prop) : Prop :=
 iteB ((a.len : Int) != (b.len : Int)) (
 Q false h
 ) (
 loop (fun (s0 : Int) h0 (K0 : Int → Heap → Prop) =>
 iteB (decide (s0 < (a.len : Int))) (
 idxS a s0 1 fun a_1 =>
 Lift.load (Value.int .u32) a_1 h0 fun v =>
 idxS b s0 1 fun a_2 =>
 Lift.load (Value.int .u32) a_2 h0 fun v_1 =>
 iteB (v != v_1) (
 Q false h0
 ) (
 Let (IntKind.wrap .i64 (s0 + 1) : Int) fun i =>
 K0 i h0
 )
 ) (
 Q true h0
 )
 ) 0 h
 )
def cf (x0 : Bool × Sl × Sl) (y : Bool × Sl × Sl) (h : Heap) (Q : Bool → Heap → Prop) : Prop :=
 mem h fun h0 =>
 seq (fun (K0 : Bool → Heap → Prop) =>
 iteB (x0.1 == y.1) (
 dr x0.2.1 y.2.1 h0 fun v h2 =>
 iteB v (
 dr x0.2.2 y.2.2 h2 fun v_1 h3 =>
 K0 v_1 h3
 ) (
 K0 false h2
 )
 ) (
 K0 false h0
 )
 ) (fun t0 h1 =>
 Q t0 h1
 )
def bp (x0 : Bool × Sl × Sl) (h : Heap) (Q : Bool → Heap → Prop) : Prop :=
 mem h fun h0 =>
 seq (fun (K0 : Bool → Heap → Prop) =>
 iteB (decide ((x0.2.1.len : Int) > 0)) (
 idxS x0.2.1 (IntKind.wrap .i64 ((x0.2.1.len : Int) - 1)) 1 fun a =>
 Lift.load (Value.int .u32) a h0 fun v =>
 iteB (v == 0) (
 K0 true h0
 ) (
 iteB (decide ((x0.2.2.len : Int) > 0)) (
 idxS x0.2.2 (IntKind.wrap .i64 ((x0.2.2.len : Int) - 1)) 1 fun a_1 =>
 Lift.load (Value.int .u32) a_1 h0 fun v_1 =>
 iteB (v_1 == 0) (
 K0 true h0
 ) (
 iteB ((x0.2.1.len : Int) == 0) (
 K0 x0.1 h0
 ) (
 K0 false h0
 )
 )
 ) (
 iteB ((x0.2.1.len : Int) == 0) (
 K0 x0.1 h0
 ) (
 K0 false h0
 )
 )
 )
 ) (
 iteB (decide ((x0.2.2.len : Int) > 0)) (
 idxS x0.2.2 (IntKind.wrap .i64 ((x0.2.2.len : Int) - 1)) 1 fun a_2 =>
 Lift.load (Value.int .u32) a_2 h0 fun v_2 =>
 iteB (v_2 == 0) (
 K0 true h0
 ) (
 iteB ((x0.2.1.len : Int) == 0) (
 K0 x0.1 h0
 ) (
 K0 false h0
 )
 )
 ) (
 iteB ((x0.2.1.len : Int) == 0) (
 K0 x0.1 h0
 ) (
 K0 false h0
 )
 )
 )
 ) (fun t0 h1 =>
 iteB t0 (
 Q false h1
 ) (
 eZ x0 h1 fun v_3 h2 =>
 jU v_3 h2 fun v_4 h3 =>
 cf x0 v_4 h3 fun v_5 h4 =>
 Q v_5 h4
 )
 )
def fe (p : Bool × Sl × Sl × Sl) (h : Heap) (Q : Bool → Heap → Prop) : Prop :=
 mem h fun h0 =>
 bp (p.1, p.2.1, p.2.2.1) h0 fun v h1 =>
 iteB (!v) (
 Q false h1
 ) (
 loop (fun (s0 : Int) h2 (K0 : Int → Heap → Prop) =>
 iteB (decide (s0 < (p.2.2.2.len : Int))) (
 idxS p.2.2.2 s0 4 fun a =>
 aD ai 4 a h2 fun v_1 =>
 mem h2 fun h3 =>
 seq (fun (K0u1 : Bool → Heap → Prop) =>
 iteB (decide (v_1.1 < 0)) (
 K0u1 true h3
 ) (
 iteB (decide (s0 > 0)) (
 idxS p.2.2.2 (IntKind.wrap .i64 (s0 - 1)) 4 fun a_1 =>
 Lift.load (Value.int .i64) (a_1.add 0) h3 fun v_2 =>
 iteB (decide (v_1.1 ≤ v_2)) (
 K0u1 true h3
 ) (
 bp (v_1.2.1, v_1.2.2.1, v_1.2.2.2) h3 fun v_3 h5 =>
 iteB (!v_3) (
 K0u1 true h5
 ) (
 K0u1 ((v_1.2.2.1.len : Int) == 0) h5
 )
 )
 ) (
 bp (v_1.2.1, v_1.2.2.1, v_1.2.2.2) h3 fun v_4 h6 =>
 iteB (!v_4) (
 K0u1 true h6
 ) (
 K0u1 ((v_1.2.2.1.len : Int) == 0) h6
 )
 )
 )
 ) (fun t0 h4 =>
 iteB t0 (
 Q false h4
 ) (
 Let (IntKind.wrap .i64 (s0 + 1) : Int) fun i =>
 K0 i h4
 )
 )
 ) (
 Q true h2
 )
 ) 0 h1
 )
def mP (l : Sl) (h : Heap) (Q : Bool → Heap → Prop) : Prop :=
 loop (fun (s0 : Int) h0 (K0 : Int → Heap → Prop) =>
 iteB (decide (s0 < (l.len : Int))) (
 idxS l s0 4 fun a =>
 aD ah 4 a h0 fun v =>
 mem h0 fun h1 =>
 seq (fun (K0u1 : Bool → Heap → Prop) =>
 iteB (decide ((v.2.2.2.len : Int) > 12)) (
 K0u1 true h1
 ) (
 new [Value.bool v.1, Sl.toV v.2.1, Sl.toV v.2.2.1] h1 fun a_1 h3 =>
 b9 (⟨some a_1, 1, 1⟩ : Sl) h3 fun v_2 h4 =>
 iteB v_2 (
 K0u1 true h4
 ) (
 fe v h4 fun v_3 h5 =>
 K0u1 (!v_3) h5
 )
 )
 ) (fun t0 h2 =>
 iteB t0 (
 Q true h2
 ) (
 loop (fun (s0u1 : Int) h6 (K0u2 : Int → Heap → Prop) =>
 iteB (decide (s0u1 < (v.2.2.2.len : Int))) (
 idxS v.2.2.2 s0u1 4 fun a_2 =>
 aD ai 4 a_2 h6 fun v_4 =>
 mem h6 fun h7 =>
 new [Value.bool v_4.2.1, Sl.toV v_4.2.2.1, Sl.toV v_4.2.2.2] h7 fun a_3 h8 =>
 b9 (⟨some a_3, 1, 1⟩ : Sl) h8 fun v_6 h9 =>
 iteB v_6 (
 Q true h9
 ) (
 K0u2 (IntKind.wrap .i64 (s0u1 + 1)) h9
 )
 ) (
 K0 (IntKind.wrap .i64 (s0 + 1)) h6
 )
 ) 0 h2
 )
 )
 ) (
 Q false h0
 )
 ) 0 h
def im (rows : Sl) (n : Int) (h : Heap) (Q : Bool → Heap → Prop) : Prop :=
 seq (fun (K0 : Bool → Heap → Prop) =>
 iteB (decide ((rows.len : Int) > 6)) (
 K0 true h
 ) (
 iteB (decide (n > 20)) (
 K0 true h
 ) (
 mP rows h fun v h1 =>
 K0 v h1
 )
 )
 ) (fun t0 h0 =>
 Q t0 h0
 )
def il (x0 : Bool × Sl × Sl × Bool × Sl × Sl) (h : Heap) (Q : Bool → Heap → Prop) : Prop :=
 mem h fun h0 =>
 seq (fun (K0 : Bool → Heap → Prop) =>
 bp (x0.1, x0.2.1, x0.2.2.1) h0 fun v h2 =>
 iteB v (
 bp (x0.2.2.2.1, x0.2.2.2.2.1, x0.2.2.2.2.2) h2 fun v_1 h3 =>
 K0 v_1 h3
 ) (
 K0 false h2
 )
 ) (fun t0 h1 =>
 Q t0 h1
 )
def ji (l : Sl) (h : Heap) (Q : Bool → Heap → Prop) : Prop :=
 loop (fun (s0 : Int) h0 (K0 : Int → Heap → Prop) =>
 iteB (decide (s0 < (l.len : Int))) (
 idxS l s0 6 fun a =>
 aD aa 6 a h0 fun v =>
 mem h0 fun h1 =>
 seq (fun (K0u1 : Bool → Heap → Prop) =>
 new [Value.bool v.1, Sl.toV v.2.1, Sl.toV v.2.2.1, Value.bool v.2.2.2.1, Sl.toV v.2.2.2.2.1, Sl.toV v.2.2.2.2.2] h1 fun a_1 h3 =>
 b9 (⟨some a_1, 2, 2⟩ : Sl) h3 fun v_2 h4 =>
 iteB v_2 (
 K0u1 true h4
 ) (
 il v h4 fun v_3 h5 =>
 K0u1 (!v_3) h5
 )
 ) (fun t0 h2 =>
 iteB t0 (
 Q true h2
 ) (
 K0 (IntKind.wrap .i64 (s0 + 1)) h2
 )
 )
 ) (
 Q false h0
 )
 ) 0 h
def mI (reals : Int) (rows : Sl) (acts : Sl) (h : Heap) (Q : Bool → Heap → Prop) : Prop :=
 seq (fun (K0 : Bool → Heap → Prop) =>
 iteB (decide (reals < 0)) (
 K0 true h
 ) (
 im rows reals h fun v h1 =>
 iteB v (
 K0 true h1
 ) (
 K0 (decide ((acts.len : Int) > 24)) h1
 )
 )
 ) (fun t0 h0 =>
 iteB t0 (
 Q true h0
 ) (
 loop (fun (s0 : Int) h2 (K0u1 : Int → Heap → Prop) =>
 iteB (decide (s0 < (rows.len : Int))) (
 idxS rows s0 4 fun a =>
 aD ah 4 a h2 fun v_1 =>
 mem h2 fun h3 =>
 seq (fun (K0u2 : Bool → Heap → Prop) =>
 iteB (decide ((v_1.2.2.2.len : Int) < 2)) (
 K0u2 true h3
 ) (
 iteB (decide ((v_1.2.1.len : Int) > 0)) (
 K0u2 true h3
 ) (
 idxS v_1.2.2.2 (IntKind.wrap .i64 ((v_1.2.2.2.len : Int) - 1)) 4 fun a_1 =>
 Lift.load (Value.int .i64) (a_1.add 0) h3 fun v_2 =>
 K0u2 (decide (v_2 ≥ reals)) h3
 )
 )
 ) (fun t0u1 h4 =>
 iteB t0u1 (
 Q true h4
 ) (
 loop (fun (s0u1 : Int) h5 (K0u3 : Int → Heap → Prop) =>
 iteB (decide (s0u1 < (v_1.2.2.2.len : Int))) (
 idxS v_1.2.2.2 s0u1 4 fun a_2 =>
 aD ai 4 a_2 h5 fun v_3 =>
 mem h5 fun h6 =>
 seq (fun (K0u4 : Bool → Heap → Prop) =>
 iteB (decide ((v_3.2.2.1.len : Int) > 1)) (
 K0u4 true h6
 ) (
 K0u4 (decide ((v_3.2.2.2.len : Int) > 1)) h6
 )
 ) (fun t0u2 h7 =>
 iteB t0u2 (
 Q true h7
 ) (
 K0u3 (IntKind.wrap .i64 (s0u1 + 1)) h7
 )
 )
 ) (
 K0u1 (IntKind.wrap .i64 (s0 + 1)) h5
 )
 ) 0 h4
 )
 )
 ) (
 loop (fun (s0u2 : Int) h8 (K0u5 : Int → Heap → Prop) =>
 iteB (decide (s0u2 < (acts.len : Int))) (
 idxS acts s0u2 10 fun a_3 =>
 aD ay 10 a_3 h8 fun v_4 =>
 mem h8 fun h9 =>
 seq (fun (K0u6 : Bool → Heap → Prop) =>
 new [Value.bool v_4.2.2.2.2.1, Sl.toV v_4.2.2.2.2.2.1, Sl.toV v_4.2.2.2.2.2.2.1, Value.bool v_4.2.2.2.2.2.2.2.1, Sl.toV v_4.2.2.2.2.2.2.2.2.1, Sl.toV v_4.2.2.2.2.2.2.2.2.2] h9 fun a_4 h11 =>
 ji (⟨some a_4, 1, 1⟩ : Sl) h11 fun v_6 h12 =>
 iteB v_6 (
 K0u6 true h12
 ) (
 iteB (decide ((v_4.2.2.2.2.2.1.len : Int) > 1)) (
 K0u6 true h12
 ) (
 iteB (decide ((v_4.2.2.2.2.2.2.1.len : Int) > 1)) (
 K0u6 true h12
 ) (
 iteB (decide ((v_4.2.2.2.2.2.2.2.2.1.len : Int) > 1)) (
 K0u6 true h12
 ) (
 K0u6 (decide ((v_4.2.2.2.2.2.2.2.2.2.len : Int) > 1)) h12
 )
 )
 )
 )
 ) (fun t0u3 h10 =>
 iteB t0u3 (
 Q true h10
 ) (
 K0u5 (IntKind.wrap .i64 (s0u2 + 1)) h10
 )
 )
 ) (
 Q false h8
 )
 ) 0 h2
 )
 ) 0 h0
 )
 )
def cW (x0 : Bool × Sl × Sl × Bool × Sl × Sl) (h : Heap) (Q : Bool → Heap → Prop) : Prop :=
 mem h fun h0 =>
 il x0 h0 fun v h1 =>
 Q v h1
def bE (x0 : Bool × Sl × Sl × Bool × Sl × Sl) (y : Bool × Sl × Sl × Bool × Sl × Sl) (h : Heap) (Q : Bool → Heap → Prop) : Prop :=
 mem h fun h0 =>
 seq (fun (K0 : Bool → Heap → Prop) =>
 cf (x0.1, x0.2.1, x0.2.2.1) (y.1, y.2.1, y.2.2.1) h0 fun v h2 =>
 iteB v (
 cf (x0.2.2.2.1, x0.2.2.2.2.1, x0.2.2.2.2.2) (y.2.2.2.1, y.2.2.2.2.1, y.2.2.2.2.2) h2 fun v_1 h3 =>
 K0 v_1 h3
 ) (
 K0 false h2
 )
 ) (fun t0 h1 =>
 Q t0 h1
 )
def iR (t0 : Sl × Sl × Sl × Sl × Sl) (v : Int) (h : Heap) (Q : Int → Heap → Prop) : Prop :=
 mem h fun h0 =>
 loop (fun (s0 : Int) h1 (K0 : Int → Heap → Prop) =>
 iteB (decide (s0 < (t0.1.len : Int))) (
 idxS t0.1 s0 1 fun a =>
 Lift.load (Value.int .i64) a h1 fun v_1 =>
 iteB (v_1 == v) (
 Q s0 h1
 ) (
 Let (IntKind.wrap .i64 (s0 + 1) : Int) fun i =>
 K0 i h1
 )
 ) (
 Q (-1) h1
 )
 ) 0 h0
def eR (x0 : Bool × Sl × Sl × Bool × Sl × Sl) (h : Heap) (Q : (Bool × Sl × Sl × Bool × Sl × Sl) → Heap → Prop) : Prop :=
 mem h fun h0 =>
 eZ (x0.1, x0.2.1, x0.2.2.1) h0 fun v h1 =>
 eZ (x0.2.2.2.1, x0.2.2.2.2.1, x0.2.2.2.2.2) h1 fun v_1 h2 =>
 Q (v.1, v.2.1, v.2.2, v_1.1, v_1.2.1, v_1.2.2) h2
def cS (x0 : Sl) (y : Sl) (h : Heap) (Q : Sl → Heap → Prop) : Prop :=
 Let (IntKind.wrap .i64 ((IntKind.wrap .i64 ((x0.len : Int) + (y.len : Int))) + 1) : Int) fun t15 =>
 mkS [Value.int .i64 0] 8 t15 t15 h fun v h0 =>
 loop (fun (s0 : Int) h1 (K0 : Int → Heap → Prop) =>
 iteB (decide (s0 < (x0.len : Int))) (
 loop (fun (s0u1 : Int × Int) h2 (K0u1 : (Int × Int) → Heap → Prop) =>
 seq (fun (K0u2 : Bool → Heap → Prop) =>
 iteB (decide (s0u1.2 < (y.len : Int))) (
 K0u2 true h2
 ) (
 K0u2 (decide (s0u1.1 > 0)) h2
 )
 ) (fun t0 h3 =>
 iteB t0 (
 idxS v (IntKind.wrap .i64 (s0 + s0u1.2)) 1 fun a =>
 Lift.load (Value.int .i64) a h3 fun v_1 =>
 Let (IntKind.wrap .i64 (v_1 + s0u1.1) : Int) fun n =>
 seq (fun (K0u3 : Int → Heap → Prop) =>
 iteB (decide (s0u1.2 < (y.len : Int))) (
 idxS x0 s0 1 fun a_1 =>
 Lift.load (Value.int .i64) a_1 h3 fun v_2 =>
 idxS y s0u1.2 1 fun a_2 =>
 Lift.load (Value.int .i64) a_2 h3 fun v_3 =>
 Let (IntKind.wrap .i64 (n + (IntKind.wrap .i64 (v_2 * v_3))) : Int) fun n_1 =>
 K0u3 n_1 h3
 ) (
 K0u3 n h3
 )
 ) (fun t0u1 h4 =>
 idxS v (IntKind.wrap .i64 (s0 + s0u1.2)) 1 fun a_3 =>
 Lift.ady a_3 (Value.int .i64 (Int.tmod t0u1 10)) h4 fun h5 =>
 Let (IntKind.wrap .i64 (Int.tdiv t0u1 10) : Int) fun carry =>
 Let (IntKind.wrap .i64 (s0u1.2 + 1) : Int) fun k =>
 K0u1 (carry, k) h5
 )
 ) (
 Let (IntKind.wrap .i64 (s0 + 1) : Int) fun i =>
 K0 i h3
 )
 )
 ) (0, 0) h1
 ) (
 bY v h1 fun v_4 h6 =>
 Q v_4 h6
 )
 ) 0 h0
def jl (x0 : Bool × Sl × Sl) (y : Bool × Sl × Sl) (h : Heap) (Q : (Bool × Sl × Sl) → Heap → Prop) : Prop :=
 mem h fun h0 =>
 cS x0.2.1 y.2.1 h0 fun v h1 =>
 cS x0.2.2 y.2.2 h1 fun v_1 h2 =>
 c9 ((!(x0.1 == y.1)), v, v_1) h2 fun v_2 h3 =>
 Q v_2 h3
def ip (k : Bool × Sl × Sl) (x0 : Bool × Sl × Sl × Bool × Sl × Sl) (h : Heap) (Q : (Bool × Sl × Sl × Bool × Sl × Sl) → Heap → Prop) : Prop :=
 mem h fun h0 =>
 jl k (x0.1, x0.2.1, x0.2.2.1) h0 fun v h1 =>
 jl k (x0.2.2.2.1, x0.2.2.2.2.1, x0.2.2.2.2.2) h1 fun v_1 h2 =>
 Q (v.1, v.2.1, v.2.2, v_1.1, v_1.2.1, v_1.2.2) h2
def iV (x0 : Sl) (y : Sl) (h : Heap) (Q : Sl → Heap → Prop) : Prop :=
 new [] h fun a h0 =>
 Let ((⟨some a, 0, 0⟩ : Sl) : Sl) fun out =>
 loop (fun (s0 : Sl × Int × Int) h1 (K0 : (Sl × Int × Int) → Heap → Prop) =>
 seq (fun (K0u1 : Bool → Heap → Prop) =>
 iteB (decide (s0.2.2 < (x0.len : Int))) (
 K0u1 true h1
 ) (
 iteB (decide (s0.2.2 < (y.len : Int))) (
 K0u1 true h1
 ) (
 K0u1 (decide (s0.2.1 > 0)) h1
 )
 )
 ) (fun t0 h2 =>
 iteB t0 (
 seq (fun (K0u2 : Int → Heap → Prop) =>
 iteB (decide (s0.2.2 < (x0.len : Int))) (
 idxS x0 s0.2.2 1 fun a_1 =>
 Lift.load (Value.int .i64) a_1 h2 fun v_1 =>
 Let (IntKind.wrap .i64 (s0.2.1 + v_1) : Int) fun n =>
 K0u2 n h2
 ) (
 K0u2 s0.2.1 h2
 )
 ) (fun t0u1 h3 =>
 seq (fun (K0u3 : Int → Heap → Prop) =>
 iteB (decide (s0.2.2 < (y.len : Int))) (
 idxS y s0.2.2 1 fun a_2 =>
 Lift.load (Value.int .i64) a_2 h3 fun v_2 =>
 Let (IntKind.wrap .i64 (t0u1 + v_2) : Int) fun n_1 =>
 K0u3 n_1 h3
 ) (
 K0u3 t0u1 h3
 )
 ) (fun t0u2 h4 =>
 new [Value.int .i64 (Int.tmod t0u2 10)] h4 fun a_3 h5 =>
 aK 1 8 s0.1 (⟨some a_3, 1, 1⟩ : Sl) h5 fun v_4 h6 =>
 Let (IntKind.wrap .i64 (Int.tdiv t0u2 10) : Int) fun carry =>
 Let (IntKind.wrap .i64 (s0.2.2 + 1) : Int) fun i =>
 K0 (v_4, carry, i) h6
 )
 )
 ) (
 bY s0.1 h2 fun v_5 h7 =>
 Q v_5 h7
 )
 )
 ) (out, 0, 0) h0
def ge (x0 : Bool × Sl × Sl) (y : Bool × Sl × Sl) (h : Heap) (Q : (Bool × Sl × Sl) → Heap → Prop) : Prop :=
 mem h fun h0 =>
 cS x0.2.1 y.2.2 h0 fun v h1 =>
 cS y.2.1 x0.2.2 h1 fun v_1 h2 =>
 cS x0.2.2 y.2.2 h2 fun v_2 h3 =>
 iteB (x0.1 == y.1) (
 iV v v_1 h3 fun v_3 h4 =>
 c9 (x0.1, v_3, v_2) h4 fun v_4 h5 =>
 Q v_4 h5
 ) (
 d8 v v_1 h3 fun v_5 h6 =>
 iteB (decide (v_5 ≥ 0)) (
 eG v v_1 h6 fun v_6 h7 =>
 c9 (x0.1, v_6, v_2) h7 fun v_7 h8 =>
 Q v_7 h8
 ) (
 eG v_1 v h6 fun v_8 h9 =>
 c9 (y.1, v_8, v_2) h9 fun v_9 h10 =>
 Q v_9 h10
 )
 )
def lP (x0 : Bool × Sl × Sl × Bool × Sl × Sl) (y : Bool × Sl × Sl × Bool × Sl × Sl) (h : Heap) (Q : (Bool × Sl × Sl × Bool × Sl × Sl) → Heap → Prop) : Prop :=
 mem h fun h0 =>
 ge (x0.1, x0.2.1, x0.2.2.1) (y.1, y.2.1, y.2.2.1) h0 fun v h1 =>
 ge (x0.2.2.2.1, x0.2.2.2.2.1, x0.2.2.2.2.2) (y.2.2.2.1, y.2.2.2.2.1, y.2.2.2.2.2) h1 fun v_1 h2 =>
 Q (v.1, v.2.1, v.2.2, v_1.1, v_1.2.1, v_1.2.2) h2
def iE (p : Bool × Sl × Sl × Sl) (l : Sl) (h : Heap) (Q : (Bool × Sl × Sl × Bool × Sl × Sl) → Heap → Prop) : Prop :=
 mem h fun h0 =>
 eR (false, Sl.nil, Sl.nil, false, Sl.nil, Sl.nil) h0 fun v h1 =>
 mem h1 fun h2 =>
 loop (fun (s0 : Int × Bool × Sl × Sl × Bool × Sl × Sl) h3 (K0 : (Int × Bool × Sl × Sl × Bool × Sl × Sl) → Heap → Prop) =>
 iteB (decide (s0.1 < (p.2.2.2.len : Int))) (
 idxS p.2.2.2 s0.1 4 fun a =>
 aD aA 3 (a.add 1) h3 fun v_1 =>
 idxS p.2.2.2 s0.1 4 fun a_1 =>
 Lift.load (Value.int .i64) (a_1.add 0) h3 fun v_2 =>
 idxS l v_2 6 fun a_2 =>
 aD aa 6 a_2 h3 fun v_3 =>
 eZ v_1 h3 fun v_4 h4 =>
 (cell? h4 (a_1.add 0) = some (Value.int .i64 v_2)) ∧
 (cells? h4 a_2 6 0 = some [Value.bool v_3.1, Sl.toV v_3.2.1, Sl.toV v_3.2.2.1, Value.bool v_3.2.2.2.1, Sl.toV v_3.2.2.2.2.1, Sl.toV v_3.2.2.2.2.2]) ∧
 eR v_3 h4 fun v_5 h5 =>
 ip v_4 v_5 h5 fun v_6 h6 =>
 lP (s0.2.1, s0.2.2.1, s0.2.2.2.1, s0.2.2.2.2.1, s0.2.2.2.2.2.1, s0.2.2.2.2.2.2) v_6 h6 fun v_7 h7 =>
 Let (IntKind.wrap .i64 (s0.1 + 1) : Int) fun i =>
 K0 (i, v_7.1, v_7.2.1, v_7.2.2.1, v_7.2.2.2.1, v_7.2.2.2.2.1, v_7.2.2.2.2.2) h7
 ) (
 Q (s0.2.1, s0.2.2.1, s0.2.2.2.1, s0.2.2.2.2.1, s0.2.2.2.2.2.1, s0.2.2.2.2.2.2) h3
 )
 ) (0, v.1, v.2.1, v.2.2.1, v.2.2.2.1, v.2.2.2.2.1, v.2.2.2.2.2) h2
def oa (x0 : Bool × Sl × Sl) (h : Heap) (Q : (Bool × Sl × Sl) → Heap → Prop) : Prop :=
 mem h fun h0 =>
 seq (fun (K0 : (Bool × Sl × Sl) → Heap → Prop) =>
 iteB (!x0.1) (
 K0 (decide ((x0.2.1.len : Int) > 0), x0.2.1, x0.2.2) h0
 ) (
 K0 (false, x0.2.1, x0.2.2) h0
 )
 ) (fun t0 h1 =>
 Q t0 h1
 )
def i5 (x0 : Bool × Sl × Sl) (y : Bool × Sl × Sl) (h : Heap) (Q : Int → Heap → Prop) : Prop :=
 mem h fun h0 =>
 seq (fun (K0 : (Bool × Sl × Sl) → Heap → Prop) =>
 mem h0 fun h2 =>
 oa y h2 fun v_3 h9 =>
 mem h9 fun h10 =>
 ge x0 v_3 h10 fun v_4 h11 =>
 mem h11 fun h12 =>
 K0 v_4 h12
 ) (fun t0 h1 =>
 iteB ((t0.2.1.len : Int) == 0) (
 Q 0 h1
 ) (
 iteB t0.1 (
 Q (-1) h1
 ) (
 Q 1 h1
 )
 )
 )
def jd (x0 : Bool × Sl × Sl × Bool × Sl × Sl) (y : Bool × Sl × Sl × Bool × Sl × Sl) (h : Heap) (Q : Int → Heap → Prop) : Prop :=
 mem h fun h0 =>
 i5 (x0.1, x0.2.1, x0.2.2.1) (y.1, y.2.1, y.2.2.1) h0 fun v h1 =>
 seq (fun (K0 : Int → Heap → Prop) =>
 iteB (v == 0) (
 i5 (x0.2.2.2.1, x0.2.2.2.2.1, x0.2.2.2.2.2) (y.2.2.2.1, y.2.2.2.2.1, y.2.2.2.2.2) h1 fun v_1 h3 =>
 K0 v_1 h3
 ) (
 K0 v h1
 )
 ) (fun t0 h2 =>
 Q t0 h2
 )
def ij (t0 : Sl × Sl × Sl × Sl × Sl) (h : Heap) (Q : Bool → Heap → Prop) : Prop :=
 mem h fun h0 =>
 Let ((t0.2.2.1.len : Int) : Int) fun n =>
 seq (fun (K0 : Bool → Heap → Prop) =>
 iteB ((t0.1.len : Int) != (t0.2.1.len : Int)) (
 K0 true h0
 ) (
 iteB ((t0.2.2.2.1.len : Int) != n) (
 K0 true h0
 ) (
 K0 ((t0.2.2.2.2.len : Int) != n) h0
 )
 )
 ) (fun t0u1 h1 =>
 iteB t0u1 (
 Q false h1
 ) (
 loop (fun (s0 : Int) h2 (K0u1 : Int → Heap → Prop) =>
 iteB (decide (s0 < n)) (
 seq (fun (K0u2 : Bool → Heap → Prop) =>
 idxS t0.2.2.1 s0 6 fun a =>
 aD aa 6 a h2 fun v =>
 cW v h2 fun v_1 h4 =>
 iteB (!v_1) (
 K0u2 true h4
 ) (
 idxS t0.2.2.2.1 s0 7 fun a_1 =>
 aD aa 6 (a_1.add 1) h4 fun v_2 =>
 cW v_2 h4 fun v_3 h5 =>
 iteB (!v_3) (
 K0u2 true h5
 ) (
 idxS t0.2.2.2.2 s0 7 fun a_2 =>
 aD aa 6 (a_2.add 1) h5 fun v_4 =>
 cW v_4 h5 fun v_5 h6 =>
 K0u2 (!v_5) h6
 )
 )
 ) (fun t0u2 h3 =>
 iteB t0u2 (
 Q false h3
 ) (
 seq (fun (K0u3 : Bool → Heap → Prop) =>
 idxS t0.2.2.2.1 s0 7 fun a_3 =>
 Lift.load (Value.int .i64) (a_3.add 0) h3 fun v_6 =>
 iteB (v_6 == 0) (
 idxS t0.2.2.2.1 s0 7 fun a_4 =>
 aD aa 6 (a_4.add 1) h3 fun v_7 =>
 bE v_7 (false, Sl.nil, Sl.nil, false, Sl.nil, Sl.nil) h3 fun v_8 h8 =>
 iteB (!v_8) (
 K0u3 true h8
 ) (
 idxS t0.2.2.2.2 s0 7 fun a_5 =>
 Lift.load (Value.int .i64) (a_5.add 0) h8 fun v_9 =>
 iteB (v_9 == 0) (
 idxS t0.2.2.2.2 s0 7 fun a_6 =>
 aD aa 6 (a_6.add 1) h8 fun v_10 =>
 bE v_10 (false, Sl.nil, Sl.nil, false, Sl.nil, Sl.nil) h8 fun v_11 h9 =>
 K0u3 (!v_11) h9
 ) (
 K0u3 false h8
 )
 )
 ) (
 idxS t0.2.2.2.2 s0 7 fun a_7 =>
 Lift.load (Value.int .i64) (a_7.add 0) h3 fun v_12 =>
 iteB (v_12 == 0) (
 idxS t0.2.2.2.2 s0 7 fun a_8 =>
 aD aa 6 (a_8.add 1) h3 fun v_13 =>
 bE v_13 (false, Sl.nil, Sl.nil, false, Sl.nil, Sl.nil) h3 fun v_14 h10 =>
 K0u3 (!v_14) h10
 ) (
 K0u3 false h3
 )
 )
 ) (fun t0u3 h7 =>
 iteB t0u3 (
 Q false h7
 ) (
 Let (IntKind.wrap .i64 (s0 + 1) : Int) fun i =>
 K0u1 i h7
 )
 )
 )
 )
 ) (
 loop (fun (s0u1 : Int) h11 (K0u4 : Int → Heap → Prop) =>
 iteB (decide (s0u1 < (t0.2.1.len : Int))) (
 idxS t0.1 s0u1 1 fun a_9 =>
 Lift.load (Value.int .i64) a_9 h11 fun v_15 =>
 seq (fun (K0u5 : Bool → Heap → Prop) =>
 iteB (decide (v_15 < 0)) (
 K0u5 true h11
 ) (
 iteB (decide (v_15 ≥ n)) (
 K0u5 true h11
 ) (
 iR t0 v_15 h11 fun v_16 h13 =>
 iteB (v_16 != s0u1) (
 K0u5 true h13
 ) (
 idxS t0.2.1 s0u1 4 fun a_10 =>
 aD ah 4 a_10 h13 fun v_17 =>
 fe v_17 h13 fun v_18 h14 =>
 iteB (!v_18) (
 K0u5 true h14
 ) (
 idxS t0.2.1 s0u1 4 fun a_11 =>
 Lift.load Sl.toV (((a_11.add 0).add 0).add 1) h14 fun v_19 =>
 K0u5 (decide ((v_19.len : Int) > 0)) h14
 )
 )
 )
 )
 ) (fun t0u4 h12 =>
 iteB t0u4 (
 Q false h12
 ) (
 loop (fun (s0u2 : Int) h15 (K0u6 : Int → Heap → Prop) =>
 idxS t0.2.1 s0u1 4 fun a_12 =>
 Lift.load Sl.toV (a_12.add 3) h15 fun v_20 =>
 iteB (decide (s0u2 < (v_20.len : Int))) (
 idxS t0.2.1 s0u1 4 fun a_13 =>
 Lift.load Sl.toV (a_13.add 3) h15 fun v_21 =>
 idxS v_21 s0u2 4 fun a_14 =>
 Lift.load (Value.int .i64) (a_14.add 0) h15 fun v_22 =>
 seq (fun (K0u7 : Bool → Heap → Prop) =>
 iteB (decide (v_22 ≥ n)) (
 K0u7 true h15
 ) (
 iR t0 v_22 h15 fun v_23 h17 =>
 K0u7 (decide (v_23 ≥ 0)) h17
 )
 ) (fun t0u5 h16 =>
 iteB t0u5 (
 Q false h16
 ) (
 Let (IntKind.wrap .i64 (s0u2 + 1) : Int) fun k =>
 K0u6 k h16
 )
 )
 ) (
 idxS t0.2.1 s0u1 4 fun a_15 =>
 aD ah 4 a_15 h15 fun v_24 =>
 idxS t0.2.2.1 v_15 6 fun a_16 =>
 aD aa 6 a_16 h15 fun v_25 =>
 iE v_24 t0.2.2.1 h15 fun v_26 h18 =>
 (cells? h18 a_16 6 0 = some [Value.bool v_25.1, Sl.toV v_25.2.1, Sl.toV v_25.2.2.1, Value.bool v_25.2.2.2.1, Sl.toV v_25.2.2.2.2.1, Sl.toV v_25.2.2.2.2.2]) ∧
 eR v_25 h18 fun v_27 h19 =>
 jd v_26 v_27 h19 fun v_28 h20 =>
 iteB (v_28 != 0) (
 Q false h20
 ) (
 Let (IntKind.wrap .i64 (s0u1 + 1) : Int) fun i_1 =>
 K0u4 i_1 h20
 )
 )
 ) 0 h12
 )
 )
 ) (
 Q true h11
 )
 ) 0 h2
 )
 ) 0 h1
 )
 )
def jS (p : Bool × Sl × Sl × Sl) (q : Bool × Sl × Sl × Sl) (h : Heap) (Q : Bool → Heap → Prop) : Prop :=
 mem h fun h0 =>
 seq (fun (K0 : Bool → Heap → Prop) =>
 cf (p.1, p.2.1, p.2.2.1) (q.1, q.2.1, q.2.2.1) h0 fun v h2 =>
 iteB (!v) (
 K0 true h2
 ) (
 K0 ((p.2.2.2.len : Int) != (q.2.2.2.len : Int)) h2
 )
 ) (fun t0 h1 =>
 iteB t0 (
 Q false h1
 ) (
 loop (fun (s0 : Int) h3 (K0u1 : Int → Heap → Prop) =>
 iteB (decide (s0 < (p.2.2.2.len : Int))) (
 seq (fun (K0u2 : Bool → Heap → Prop) =>
 idxS p.2.2.2 s0 4 fun a =>
 Lift.load (Value.int .i64) (a.add 0) h3 fun v_1 =>
 idxS q.2.2.2 s0 4 fun a_1 =>
 Lift.load (Value.int .i64) (a_1.add 0) h3 fun v_2 =>
 iteB (v_1 != v_2) (
 K0u2 true h3
 ) (
 idxS p.2.2.2 s0 4 fun a_2 =>
 aD aA 3 (a_2.add 1) h3 fun v_3 =>
 idxS q.2.2.2 s0 4 fun a_3 =>
 aD aA 3 (a_3.add 1) h3 fun v_4 =>
 cf v_3 v_4 h3 fun v_5 h5 =>
 K0u2 (!v_5) h5
 )
 ) (fun t0u1 h4 =>
 iteB t0u1 (
 Q false h4
 ) (
 Let (IntKind.wrap .i64 (s0 + 1) : Int) fun i =>
 K0u1 i h4
 )
 )
 ) (
 Q true h3
 )
 ) 0 h1
 )
 )
def jY (s0 : Sl × Sl × Sl × Sl × Sl) (t0 : Sl × Sl × Sl × Sl × Sl) (h : Heap) (Q : Bool → Heap → Prop) : Prop :=
 mem h fun h0 =>
 seq (fun (K0 : Bool → Heap → Prop) =>
 iteB ((s0.1.len : Int) != (t0.1.len : Int)) (
 K0 true h0
 ) (
 iteB ((s0.2.1.len : Int) != (t0.2.1.len : Int)) (
 K0 true h0
 ) (
 iteB ((s0.2.2.1.len : Int) != (t0.2.2.1.len : Int)) (
 K0 true h0
 ) (
 iteB ((s0.2.2.2.1.len : Int) != (t0.2.2.2.1.len : Int)) (
 K0 true h0
 ) (
 K0 ((s0.2.2.2.2.len : Int) != (t0.2.2.2.2.len : Int)) h0
 )
 )
 )
 )
 ) (fun t0u1 h1 =>
 iteB t0u1 (
 Q false h1
 ) (
 loop (fun (s0u1 : Int) h2 (K0u1 : Int → Heap → Prop) =>
 iteB (decide (s0u1 < (s0.1.len : Int))) (
 idxS s0.1 s0u1 1 fun a =>
 Lift.load (Value.int .i64) a h2 fun v =>
 idxS t0.1 s0u1 1 fun a_1 =>
 Lift.load (Value.int .i64) a_1 h2 fun v_1 =>
 iteB (v != v_1) (
 Q false h2
 ) (
 Let (IntKind.wrap .i64 (s0u1 + 1) : Int) fun i =>
 K0u1 i h2
 )
 ) (
 loop (fun (s0u2 : Int) h3 (K0u2 : Int → Heap → Prop) =>
 iteB (decide (s0u2 < (s0.2.1.len : Int))) (
 idxS s0.2.1 s0u2 4 fun a_2 =>
 aD ah 4 a_2 h3 fun v_2 =>
 idxS t0.2.1 s0u2 4 fun a_3 =>
 aD ah 4 a_3 h3 fun v_3 =>
 jS v_2 v_3 h3 fun v_4 h4 =>
 iteB (!v_4) (
 Q false h4
 ) (
 Let (IntKind.wrap .i64 (s0u2 + 1) : Int) fun i_1 =>
 K0u2 i_1 h4
 )
 ) (
 loop (fun (s0u3 : Int) h5 (K0u3 : Int → Heap → Prop) =>
 iteB (decide (s0u3 < (s0.2.2.1.len : Int))) (
 idxS s0.2.2.1 s0u3 6 fun a_4 =>
 aD aa 6 a_4 h5 fun v_5 =>
 idxS t0.2.2.1 s0u3 6 fun a_5 =>
 aD aa 6 a_5 h5 fun v_6 =>
 bE v_5 v_6 h5 fun v_7 h6 =>
 iteB (!v_7) (
 Q false h6
 ) (
 Let (IntKind.wrap .i64 (s0u3 + 1) : Int) fun i_2 =>
 K0u3 i_2 h6
 )
 ) (
 loop (fun (s0u4 : Int) h7 (K0u4 : Int → Heap → Prop) =>
 iteB (decide (s0u4 < (s0.2.2.2.1.len : Int))) (
 seq (fun (K0u5 : Bool → Heap → Prop) =>
 idxS s0.2.2.2.1 s0u4 7 fun a_6 =>
 Lift.load (Value.int .i64) (a_6.add 0) h7 fun v_8 =>
 idxS t0.2.2.2.1 s0u4 7 fun a_7 =>
 Lift.load (Value.int .i64) (a_7.add 0) h7 fun v_9 =>
 iteB (v_8 != v_9) (
 K0u5 true h7
 ) (
 idxS s0.2.2.2.1 s0u4 7 fun a_8 =>
 aD aa 6 (a_8.add 1) h7 fun v_10 =>
 idxS t0.2.2.2.1 s0u4 7 fun a_9 =>
 aD aa 6 (a_9.add 1) h7 fun v_11 =>
 bE v_10 v_11 h7 fun v_12 h9 =>
 K0u5 (!v_12) h9
 )
 ) (fun t0u2 h8 =>
 iteB t0u2 (
 Q false h8
 ) (
 Let (IntKind.wrap .i64 (s0u4 + 1) : Int) fun i_3 =>
 K0u4 i_3 h8
 )
 )
 ) (
 loop (fun (s0u5 : Int) h10 (K0u6 : Int → Heap → Prop) =>
 iteB (decide (s0u5 < (s0.2.2.2.2.len : Int))) (
 seq (fun (K0u7 : Bool → Heap → Prop) =>
 idxS s0.2.2.2.2 s0u5 7 fun a_10 =>
 Lift.load (Value.int .i64) (a_10.add 0) h10 fun v_13 =>
 idxS t0.2.2.2.2 s0u5 7 fun a_11 =>
 Lift.load (Value.int .i64) (a_11.add 0) h10 fun v_14 =>
 iteB (v_13 != v_14) (
 K0u7 true h10
 ) (
 idxS s0.2.2.2.2 s0u5 7 fun a_12 =>
 aD aa 6 (a_12.add 1) h10 fun v_15 =>
 idxS t0.2.2.2.2 s0u5 7 fun a_13 =>
 aD aa 6 (a_13.add 1) h10 fun v_16 =>
 bE v_15 v_16 h10 fun v_17 h12 =>
 K0u7 (!v_17) h12
 )
 ) (fun t0u3 h11 =>
 iteB t0u3 (
 Q false h11
 ) (
 Let (IntKind.wrap .i64 (s0u5 + 1) : Int) fun i_4 =>
 K0u6 i_4 h11
 )
 )
 ) (
 Q true h10
 )
 ) 0 h7
 )
 ) 0 h5
 )
 ) 0 h3
 )
 ) 0 h2
 )
 ) 0 h1
 )
 )
def je (x0 : Bool × Sl × Sl × Bool × Sl × Sl) (y : Bool × Sl × Sl × Bool × Sl × Sl) (h : Heap) (Q : Int → Heap → Prop) : Prop :=
 mem h fun h0 =>
 eR x0 h0 fun v h1 =>
 eR y h1 fun v_1 h2 =>
 jd v v_1 h2 fun v_2 h3 =>
 Q v_2 h3
def ir (t0 : Sl × Sl × Sl × Sl × Sl) (v : Int) (h : Heap) (Q : Bool → Heap → Prop) : Prop :=
 mem h fun h0 =>
 seq (fun (K0 : Bool → Heap → Prop) =>
 idxS t0.2.2.2.1 v 7 fun a =>
 Lift.load (Value.int .i64) (a.add 0) h0 fun v_1 =>
 iteB (v_1 != 0) (
 idxS t0.2.2.1 v 6 fun a_1 =>
 aD aa 6 a_1 h0 fun v_2 =>
 idxS t0.2.2.2.1 v 7 fun a_2 =>
 aD aa 6 (a_2.add 1) h0 fun v_3 =>
 je v_2 v_3 h0 fun v_4 h2 =>
 K0 (decide (v_4 < 0)) h2
 ) (
 K0 false h0
 )
 ) (fun t0u1 h1 =>
 Q t0u1 h1
 )
def iD (t0 : Sl × Sl × Sl × Sl × Sl) (v : Int) (h : Heap) (Q : Bool → Heap → Prop) : Prop :=
 mem h fun h0 =>
 seq (fun (K0 : Bool → Heap → Prop) =>
 idxS t0.2.2.2.2 v 7 fun a =>
 Lift.load (Value.int .i64) (a.add 0) h0 fun v_1 =>
 iteB (v_1 != 0) (
 idxS t0.2.2.1 v 6 fun a_1 =>
 aD aa 6 a_1 h0 fun v_2 =>
 idxS t0.2.2.2.2 v 7 fun a_2 =>
 aD aa 6 (a_2.add 1) h0 fun v_3 =>
 je v_2 v_3 h0 fun v_4 h2 =>
 K0 (decide (v_4 > 0)) h2
 ) (
 K0 false h0
 )
 ) (fun t0u1 h1 =>
 Q t0u1 h1
 )
def b7 (reals : Int) (rows : Sl) (acts : Sl) (h : Heap) (Q : Bool → Heap → Prop) : Prop :=
 cR h fun v h0 =>
 iteB (!v) (
 Q false h0
 ) (
 mI reals rows acts h0 fun v_1 h1 =>
 iteB v_1 (
 Q true h1
 ) (
 mN 60 h1 fun v_2 h2 =>
 fC (0, reals, rows, Sl.nil, Sl.nil, Sl.nil, Sl.nil) h2 fun v_3 h3 =>
 new [Sl.toV Sl.nil, Sl.toV Sl.nil, Sl.toV Sl.nil, Sl.toV Sl.nil, Sl.toV Sl.nil] h3 fun t0 h4 =>
 dU t0 [Sl.toV v_3.1, Sl.toV v_3.2.1, Sl.toV v_3.2.2.1, Sl.toV v_3.2.2.2.1, Sl.toV v_3.2.2.2.2] h4 fun h5 =>
 loop (fun (s0 : Int) h6 (K0 : Int → Heap → Prop) =>
 iteB (decide (s0 < (acts.len : Int))) (
 seq (fun (K0u1 : Unit → Heap → Prop) =>
 idxS acts s0 10 fun a =>
 aD ay 10 a h6 fun v_4 =>
 mem h6 fun h8 =>
 iteB (!v_4.1) (
 bR v_2 (some t0) v_4.2.1 v_4.2.2.2.1 (v_4.2.2.1, v_4.2.2.2.2.1, v_4.2.2.2.2.2.1, v_4.2.2.2.2.2.2.1, v_4.2.2.2.2.2.2.2.1, v_4.2.2.2.2.2.2.2.2.1, v_4.2.2.2.2.2.2.2.2.2) h8 fun v_5 h9 =>
 K0u1 () h9
 ) (
 K0u1 () h8
 )
 ) (fun t0u1 h7 =>
 K0 (IntKind.wrap .i64 (s0 + 1)) h7
 )
 ) (
 seq (fun (K0u2 : (Sl × Sl) → Heap → Prop) =>
 Lift.load Sl.toV (t0.add 3) h6 fun v_6 =>
 Lift.load Sl.toV (t0.add 4) h6 fun v_7 =>
 (
 new [] h6 fun a_1 h11 =>
 (cell? h11 (t0.add 3) = some (Sl.toV v_6)) ∧
 (cell? h11 (t0.add 4) = some (Sl.toV v_7)) ∧
 (
 aK 7 120 (⟨some a_1, 0, 0⟩ : Sl) v_6 h11 fun v_9 h12 =>
 (cell? h12 (t0.add 4) = some (Sl.toV v_7)) ∧
 new [] h12 fun a_2 h13 =>
 (cell? h13 (t0.add 4) = some (Sl.toV v_7)) ∧
 aK 7 120 (⟨some a_2, 0, 0⟩ : Sl) v_7 h13 fun v_11 h14 =>
 K0u2 (v_9, v_11) h14
 ) ∧ (
 new [] h11 fun a_3 h15 =>
 (cell? h15 (t0.add 3) = some (Sl.toV v_6)) ∧
 (cell? h15 (t0.add 4) = some (Sl.toV v_7)) ∧
 aK 7 120 (⟨some a_1, 0, 0⟩ : Sl) v_6 h15 fun v_13 h16 =>
 (cell? h16 (t0.add 4) = some (Sl.toV v_7)) ∧
 aK 7 120 (⟨some a_3, 0, 0⟩ : Sl) v_7 h16 fun v_14 h17 =>
 K0u2 (v_13, v_14) h17
 )
 ) ∧ (
 new [] h6 fun a_4 h18 =>
 (cell? h18 (t0.add 3) = some (Sl.toV v_6)) ∧
 (cell? h18 (t0.add 4) = some (Sl.toV v_7)) ∧
 new [] h18 fun a_5 h19 =>
 (cell? h19 (t0.add 3) = some (Sl.toV v_6)) ∧
 (cell? h19 (t0.add 4) = some (Sl.toV v_7)) ∧
 aK 7 120 (⟨some a_5, 0, 0⟩ : Sl) v_6 h19 fun v_17 h20 =>
 (cell? h20 (t0.add 4) = some (Sl.toV v_7)) ∧
 aK 7 120 (⟨some a_4, 0, 0⟩ : Sl) v_7 h20 fun v_18 h21 =>
 K0u2 (v_17, v_18) h21
 )
 ) (fun t0u2 h10 =>
 dl v_2 (some t0) h10 fun v_19 h22 =>
 seq (fun (K0u3 : Bool → Heap → Prop) =>
 iteB (v_19.2 != 0) (
 K0u3 true h22
 ) (
 aI v_2 h22 fun v_20 h24 =>
 K0u3 v_20 h24
 )
 ) (fun t0u3 h23 =>
 iteB t0u3 (
 seq (fun (K0u4 : Bool → Heap → Prop) =>
 iteB (v_19.2 == 6) (
 aI v_2 h23 fun v_21 h26 =>
 iteB v_21 (
 K0u4 ((v_19.1.len : Int) == 0) h26
 ) (
 K0u4 false h26
 )
 ) (
 K0u4 false h23
 )
 ) (fun t0u4 h25 =>
 Q t0u4 h25
 )
 ) (
 aD aC 5 t0 h23 fun v_22 =>
 mem h23 fun h27 =>
 seq (fun (K0u5 : Bool → Heap → Prop) =>
 aD aC 5 t0 h27 fun v_23 =>
 ij v_23 h27 fun v_24 h29 =>
 iteB (!v_24) (
 K0u5 true h29
 ) (
 aD aC 5 t0 h29 fun v_25 =>
 jY v_25 (v_22.1, v_22.2.1, v_22.2.2.1, t0u2.1, t0u2.2) h29 fun v_26 h30 =>
 K0u5 (!v_26) h30
 )
 ) (fun t0u5 h28 =>
 iteB t0u5 (
 Q false h28
 ) (
 Lift.load Sl.toV (t0.add 2) h28 fun v_27 =>
 loop (fun (s0u1 : Int) h31 (K0u6 : Int → Heap → Prop) =>
 iteB (decide (s0u1 < (v_27.len : Int))) (
 seq (fun (K0u7 : Bool → Heap → Prop) =>
 iteB ((v_19.1.len : Int) == 0) (
 aD aC 5 t0 h31 fun v_28 =>
 ir v_28 s0u1 h31 fun v_29 h33 =>
 iteB v_29 (
 K0u7 true h33
 ) (
 aD aC 5 t0 h33 fun v_30 =>
 iD v_30 s0u1 h33 fun v_31 h34 =>
 K0u7 v_31 h34
 )
 ) (
 K0u7 false h31
 )
 ) (fun t0u6 h32 =>
 iteB t0u6 (
 Q false h32
 ) (
 K0u6 (IntKind.wrap .i64 (s0u1 + 1)) h32
 )
 )
 ) (
 Q ((v_19.1.len : Int) != 1) h31
 )
 ) 0 h28
 )
 )
 )
 )
 )
 )
 ) 0 h5
 )
 )
end Go.Sh

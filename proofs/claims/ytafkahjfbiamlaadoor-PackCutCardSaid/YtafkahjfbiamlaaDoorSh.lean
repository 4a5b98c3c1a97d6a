/-
  The functions, as they are seen: printed by lift.py.
-/
import Derived.Test.YtafkahjfbiamlaaDoorFwM
set_option linter.unusedVariables false
set_option linter.unusedSimpArgs false
namespace Go.Sh
open Go Go.Lift

def C_bool_sl_sl (x : Bool × Sl × Sl) : List Value := [Value.bool x.1, Sl.toV x.2.1, Sl.toV x.2.2]
def C_bool_sl_sl_bool_sl_sl (x : Bool × Sl × Sl × Bool × Sl × Sl) : List Value := [Value.bool x.1, Sl.toV x.2.1, Sl.toV x.2.2.1, Value.bool x.2.2.2.1, Sl.toV x.2.2.2.2.1, Sl.toV x.2.2.2.2.2]
def C_i64ui64usl_bool_sl_sl_bool_sl_sl_sl (x : Int × Int × Sl × Bool × Sl × Sl × Bool × Sl × Sl × Sl) : List Value := [Value.int .i64 x.1, Value.int .i64 x.2.1, Sl.toV x.2.2.1, Value.bool x.2.2.2.1, Sl.toV x.2.2.2.2.1, Sl.toV x.2.2.2.2.2.1, Value.bool x.2.2.2.2.2.2.1, Sl.toV x.2.2.2.2.2.2.2.1, Sl.toV x.2.2.2.2.2.2.2.2.1, Sl.toV x.2.2.2.2.2.2.2.2.2]
/-- Where a variable of a package lies. -/
abbrev g_math_bits_deBruijn32tab : Nat := 0

def pack_Out_number (o : (Option Addr)) (n : Int) (size : Int) (h : Heap) (Q : Unit → Heap → Prop) : Prop :=
  Let (IntKind.wrap .i64 (size - 1) : Int) fun i =>
  loop (fun (s0 : Int) h0 (K0 : Int → Heap → Prop) =>
   iteB (decide (s0 ≥ 0)) (
    nilChk o fun a =>
    Lift.load Sl.toV (a.add 0) h0 fun v =>
    (0 ≤ (IntKind.wrap .i64 (8 * s0))) ∧
    new [Value.int .u8 (IntKind.wrap .u8 (Int.fdiv n (2 ^ (min (Int.toNat (IntKind.wrap .i64 (8 * s0))) (IntKind.bits .u64)))))] h0 fun a_1 h0u1 =>
    (cell? h0u1 (a.add 0) = some (Sl.toV v)) ∧
    appendS 1 1 v (⟨some a_1, 1, 1⟩ : Sl) h0u1 fun v_2 h0u2 =>
    nilChk o fun a_2 =>
    Lift.store (a_2.add 0) (Sl.toV v_2) h0u2 fun h0u3 =>
    Let (IntKind.wrap .i64 (s0 - 1) : Int) fun i_1 =>
    K0 i_1 h0u3
   ) (
    Q () h0
   )
  ) i h

def pack_Out_Int (o : (Option Addr)) (n : Int) (h : Heap) (Q : Unit → Heap → Prop) : Prop :=
  pack_Out_number o (IntKind.wrap .u64 n) 8 h fun v h0 =>
  Q () h0

def slices_Clone_byte_byte (s0 : Sl) (h : Heap) (Q : Sl → Heap → Prop) : Prop :=
  iteB s0.a.isNone (
   Q Sl.nil h
  ) (
   new [] h fun a h0 =>
   appendS 1 1 (⟨some a, 0, 0⟩ : Sl) s0 h0 fun v_1 h0u1 =>
   Q v_1 h0u1
  )

def pack_Out_Done (o : (Option Addr)) (h : Heap) (Q : Sl → Heap → Prop) : Prop :=
  nilChk o fun a =>
  Lift.load Sl.toV (a.add 0) h fun v =>
  slices_Clone_byte_byte v h fun v_1 h0 =>
  Q v_1 h0

def law04uspeaks (h : Heap) (Q : Bool → Heap → Prop) : Prop :=
  new [Sl.toV Sl.nil] h fun a h0 =>
  pack_Out_Int (some a) 1 h0 fun v h0u1 =>
  pack_Out_Done (some a) h0u1 fun v_1 h0u2 =>
  strOf v_1 h0u2 fun v_2 =>
  Q (v_2.toList == (ByteArray.mk #[0, 0, 0, 0, 0, 0, 0, 1]).toList) h0u2

def law02uGreat (l : Sl) (h : Heap) (Q : Bool → Heap → Prop) : Prop :=
  loop (fun (s0 : Int) h0 (K0 : Int → Heap → Prop) =>
   iteB (decide (s0 < ((l.len : Nat) : Int))) (
    idxS l s0 3 fun a =>
    loadS C_bool_sl_sl 3 a h0 fun v =>
    mem h0 fun h0u1 =>
    seq (fun (K0u1 : Bool → Heap → Prop) =>
     iteB (decide (((v.2.1.len : Nat) : Int) > 6)) (
      K0u1 true h0u1
     ) (
      K0u1 (decide (((v.2.2.len : Nat) : Int) > 6)) h0u1
     )
    ) (fun t0 h0u2 =>
     iteB t0 (
      Q true h0u2
     ) (
      K0 (IntKind.wrap .i64 (s0 + 1)) h0u2
     )
    )
   ) (
    Q false h0
   )
  ) 0 h

def ref01uCut (x0 : Sl) (h : Heap) (Q : Sl → Heap → Prop) : Prop :=
  Let (((x0.len : Nat) : Int) : Int) fun n =>
  loop (fun (s0 : Int) h0 (K0 : Int → Heap → Prop) =>
   seq (fun (K0u1 : Bool → Heap → Prop) =>
    iteB (decide (s0 > 0)) (
     idxS x0 (IntKind.wrap .i64 (s0 - 1)) 1 fun a =>
     Lift.load (Value.int .i64) a h0 fun v =>
     K0u1 (v == 0) h0
    ) (
     K0u1 false h0
    )
   ) (fun t0 h0u1 =>
    iteB t0 (
     Let (IntKind.wrap .i64 (s0 - 1) : Int) fun n_1 =>
     K0 n_1 h0u1
    ) (
     sliceOf x0 none (some s0) none 1 fun v_1 =>
     Q v_1 h0u1
    )
   )
  ) n h

def ref01uOf (x0 : Sl) (h : Heap) (Q : Sl → Heap → Prop) : Prop :=
  new [] h fun a h0 =>
  Let ((⟨some a, 0, 0⟩ : Sl) : Sl) fun out =>
  Let (IntKind.wrap .i64 (((x0.len : Nat) : Int) - 1) : Int) fun i =>
  loop (fun (s0 : Sl × Int) h0u1 (K0 : (Sl × Int) → Heap → Prop) =>
   iteB (decide (s0.2 ≥ 0)) (
    idxS x0 s0.2 1 fun a_1 =>
    Lift.load (Value.int .u32) a_1 h0u1 fun v_1 =>
    Let (IntKind.wrap .i64 v_1 : Int) fun carry =>
    loop (fun (s0u1 : Int × Int) h0u2 (K0u1 : (Int × Int) → Heap → Prop) =>
     iteB (decide (s0u1.2 < ((s0.1.len : Nat) : Int))) (
      idxS s0.1 s0u1.2 1 fun a_2 =>
      Lift.load (Value.int .i64) a_2 h0u2 fun v_2 =>
      Let (IntKind.wrap .i64 ((IntKind.wrap .i64 (v_2 * 4294967296)) + s0u1.1) : Int) fun n =>
      idxS s0.1 s0u1.2 1 fun a_3 =>
      Lift.store a_3 (Value.int .i64 (Int.tmod n 10)) h0u2 fun h0u3 =>
      Let (IntKind.wrap .i64 (Int.tdiv n 10) : Int) fun carry_1 =>
      Let (IntKind.wrap .i64 (s0u1.2 + 1) : Int) fun k =>
      K0u1 (carry_1, k) h0u3
     ) (
      loop (fun (s0u2 : Sl × Int) h0u4 (K0u2 : (Sl × Int) → Heap → Prop) =>
       iteB (decide (s0u2.2 > 0)) (
        new [Value.int .i64 (Int.tmod s0u2.2 10)] h0u4 fun a_4 h0u5 =>
        appendS 1 8 s0u2.1 (⟨some a_4, 1, 1⟩ : Sl) h0u5 fun v_4 h0u6 =>
        Let (IntKind.wrap .i64 (Int.tdiv s0u2.2 10) : Int) fun carry_2 =>
        K0u2 (v_4, carry_2) h0u6
       ) (
        Let (IntKind.wrap .i64 (s0.2 - 1) : Int) fun i_1 =>
        K0 (s0u2.1, i_1) h0u4
       )
      ) (s0.1, s0u1.1) h0u2
     )
    ) (carry, 0) h0u1
   ) (
    ref01uCut s0.1 h0u1 fun v_5 h0u7 =>
    Q v_5 h0u7
   )
  ) (out, i) h0

def ref02uOf (x0 : Bool × Sl × Sl) (h : Heap) (Q : (Bool × Sl × Sl) → Heap → Prop) : Prop :=
  mem h fun h0 =>
  seq (fun (K0 : (Bool × Sl × Sl) → Heap → Prop) =>
   mem h0 fun h0u2 =>
   ref01uOf x0.2.1 h0u2 fun v_3 h0u9 =>
   mem h0u9 fun h0u10 =>
   ref01uOf x0.2.2 h0u10 fun v_4 h0u11 =>
   mem h0u11 fun h0u12 =>
   K0 (x0.1, v_3, v_4) h0u12
  ) (fun t0 h0u1 =>
   seq (fun (K0u1 : (Bool × Sl × Sl) → Heap → Prop) =>
    iteB (((t0.2.2.len : Nat) : Int) == 0) (
     new [Value.int .i64 1] h0u1 fun a h0u14 =>
     K0u1 (t0.1, t0.2.1, (⟨some a, 1, 1⟩ : Sl)) h0u14
    ) (
     K0u1 (t0.1, t0.2.1, t0.2.2) h0u1
    )
   ) (fun t0u1 h0u13 =>
    Q (t0u1.1, t0u1.2.1, t0u1.2.2) h0u13
   )
  )

def ref02uInt (n : Int) (h : Heap) (Q : (Bool × Sl × Sl) → Heap → Prop) : Prop :=
  mem h fun h0 =>
  new [] h0 fun a h0u1 =>
  new [Value.int .i64 1] h0u1 fun a_1 h0u2 =>
  mem h0u2 fun h0u3 =>
  seq (fun (K0 : Int → Heap → Prop) =>
   iteB (decide (n < 0)) (
    Let (IntKind.wrap .i64 (0 - n) : Int) fun n_1 =>
    K0 n_1 h0u3
   ) (
    K0 n h0u3
   )
  ) (fun t0 h0u4 =>
   loop (fun (s0 : Int × Bool × Sl × Sl) h0u5 (K0u1 : (Int × Bool × Sl × Sl) → Heap → Prop) =>
    iteB (decide (s0.1 > 0)) (
     new [Value.int .i64 (Int.tmod s0.1 10)] h0u5 fun a_2 h0u6 =>
     appendS 1 8 s0.2.2.1 (⟨some a_2, 1, 1⟩ : Sl) h0u6 fun v_3 h0u7 =>
     Let (IntKind.wrap .i64 (Int.tdiv s0.1 10) : Int) fun n_2 =>
     K0u1 (n_2, s0.2.1, v_3, s0.2.2.2) h0u7
    ) (
     Q (s0.2.1, s0.2.2.1, s0.2.2.2) h0u5
    )
   ) (t0, decide (n < 0), (⟨some a, 0, 0⟩ : Sl), (⟨some a_1, 1, 1⟩ : Sl)) h0u4
  )

def ref01uCmp (x0 : Sl) (y : Sl) (h : Heap) (Q : Int → Heap → Prop) : Prop :=
  iteB (((x0.len : Nat) : Int) != ((y.len : Nat) : Int)) (
   iteB (decide (((x0.len : Nat) : Int) < ((y.len : Nat) : Int))) (
    Q (-1) h
   ) (
    Q 1 h
   )
  ) (
   Let (IntKind.wrap .i64 (((x0.len : Nat) : Int) - 1) : Int) fun i =>
   loop (fun (s0 : Int) h0 (K0 : Int → Heap → Prop) =>
    iteB (decide (s0 ≥ 0)) (
     idxS x0 s0 1 fun a =>
     Lift.load (Value.int .i64) a h0 fun v =>
     idxS y s0 1 fun a_1 =>
     Lift.load (Value.int .i64) a_1 h0 fun v_1 =>
     iteB (decide (v < v_1)) (
      Q (-1) h0
     ) (
      idxS x0 s0 1 fun a_2 =>
      Lift.load (Value.int .i64) a_2 h0 fun v_2 =>
      idxS y s0 1 fun a_3 =>
      Lift.load (Value.int .i64) a_3 h0 fun v_3 =>
      iteB (decide (v_2 > v_3)) (
       Q 1 h0
      ) (
       Let (IntKind.wrap .i64 (s0 - 1) : Int) fun i_1 =>
       K0 i_1 h0
      )
     )
    ) (
     Q 0 h0
    )
   ) i h
  )

def ref01uSub (x0 : Sl) (y : Sl) (h : Heap) (Q : Sl → Heap → Prop) : Prop :=
  ref01uCmp x0 y h fun v h0 =>
  iteB (decide (v < 0)) (
   new [] h0 fun a h0u1 =>
   Q (⟨some a, 0, 0⟩ : Sl) h0u1
  ) (
   new [] h0 fun a_1 h0u2 =>
   Let ((⟨some a_1, 0, 0⟩ : Sl) : Sl) fun out =>
   loop (fun (s0 : Sl × Int × Int) h0u3 (K0 : (Sl × Int × Int) → Heap → Prop) =>
    iteB (decide (s0.2.2 < ((x0.len : Nat) : Int))) (
     idxS x0 s0.2.2 1 fun a_2 =>
     Lift.load (Value.int .i64) a_2 h0u3 fun v_3 =>
     Let (IntKind.wrap .i64 (v_3 - s0.2.1) : Int) fun n =>
     seq (fun (K0u1 : Int → Heap → Prop) =>
      iteB (decide (s0.2.2 < ((y.len : Nat) : Int))) (
       idxS y s0.2.2 1 fun a_3 =>
       Lift.load (Value.int .i64) a_3 h0u3 fun v_4 =>
       Let (IntKind.wrap .i64 (n - v_4) : Int) fun n_1 =>
       K0u1 n_1 h0u3
      ) (
       K0u1 n h0u3
      )
     ) (fun t0 h0u4 =>
      seq (fun (K0u2 : (Int × Int) → Heap → Prop) =>
       iteB (decide (t0 < 0)) (
        Let (IntKind.wrap .i64 (t0 + 10) : Int) fun n_2 =>
        K0u2 (1, n_2) h0u4
       ) (
        K0u2 (0, t0) h0u4
       )
      ) (fun t0u1 h0u5 =>
       new [Value.int .i64 t0u1.2] h0u5 fun a_4 h0u6 =>
       appendS 1 8 s0.1 (⟨some a_4, 1, 1⟩ : Sl) h0u6 fun v_6 h0u7 =>
       Let (IntKind.wrap .i64 (s0.2.2 + 1) : Int) fun i =>
       K0 (v_6, t0u1.1, i) h0u7
      )
     )
    ) (
     ref01uCut s0.1 h0u3 fun v_7 h0u8 =>
     Q v_7 h0u8
    )
   ) (out, 0, 0) h0u2
  )

def ref01uDiv (x0 : Sl) (y : Sl) (h : Heap) (Q : (Sl × Sl) → Heap → Prop) : Prop :=
  iteB (((y.len : Nat) : Int) == 0) (
   new [] h fun a h0 =>
   new [] h0 fun a_1 h0u1 =>
   Q ((⟨some a, 0, 0⟩ : Sl), (⟨some a_1, 0, 0⟩ : Sl)) h0u1
  ) (
   Let (((x0.len : Nat) : Int) : Int) fun t15 =>
   mkS [Value.int .i64 0] 8 t15 t15 h fun v_2 h0u2 =>
   new [] h0u2 fun a_2 h0u3 =>
   Let ((⟨some a_2, 0, 0⟩ : Sl) : Sl) fun r =>
   Let (IntKind.wrap .i64 (((x0.len : Nat) : Int) - 1) : Int) fun i =>
   loop (fun (s0 : Sl × Int) h0u4 (K0 : (Sl × Int) → Heap → Prop) =>
    iteB (decide (s0.2 ≥ 0)) (
     idxS x0 s0.2 1 fun a_3 =>
     Lift.load (Value.int .i64) a_3 h0u4 fun v_4 =>
     new [Value.int .i64 v_4] h0u4 fun a_4 h0u5 =>
     appendS 1 8 (⟨some a_4, 1, 1⟩ : Sl) s0.1 h0u5 fun v_6 h0u6 =>
     ref01uCut v_6 h0u6 fun v_7 h0u7 =>
     loop (fun (s0u1 : Sl) h0u8 (K0u1 : Sl → Heap → Prop) =>
      ref01uCmp s0u1 y h0u8 fun v_8 h0u9 =>
      iteB (decide (v_8 ≥ 0)) (
       ref01uSub s0u1 y h0u9 fun v_9 h0u10 =>
       idxS v_2 s0.2 1 fun a_5 =>
       Lift.load (Value.int .i64) a_5 h0u10 fun v_10 =>
       idxS v_2 s0.2 1 fun a_6 =>
       Lift.store a_6 (Value.int .i64 (IntKind.wrap .i64 (v_10 + 1))) h0u10 fun h0u11 =>
       K0u1 v_9 h0u11
      ) (
       Let (IntKind.wrap .i64 (s0.2 - 1) : Int) fun i_1 =>
       K0 (s0u1, i_1) h0u9
      )
     ) v_7 h0u7
    ) (
     ref01uCut v_2 h0u4 fun v_11 h0u12 =>
     Q (v_11, s0.1) h0u12
    )
   ) (r, i) h0u3
  )

def ref01uGcd (x0 : Sl) (y : Sl) (h : Heap) (Q : Sl → Heap → Prop) : Prop :=
  loop (fun (s0 : Sl × Sl) h0 (K0 : (Sl × Sl) → Heap → Prop) =>
   iteB (decide (((s0.2.len : Nat) : Int) > 0)) (
    ref01uDiv s0.1 s0.2 h0 fun v h0u1 =>
    K0 (s0.2, v.2) h0u1
   ) (
    Q s0.1 h0
   )
  ) (x0, y) h

def ref02uLow (r : Bool × Sl × Sl) (h : Heap) (Q : (Bool × Sl × Sl) → Heap → Prop) : Prop :=
  mem h fun h0 =>
  iteB (((r.2.1.len : Nat) : Int) == 0) (
   ref02uInt 0 h0 fun v h0u1 =>
   Q (v.1, v.2.1, v.2.2) h0u1
  ) (
   ref01uGcd r.2.1 r.2.2 h0 fun v_1 h0u2 =>
   ref01uDiv r.2.1 v_1 h0u2 fun v_2 h0u3 =>
   ref01uDiv r.2.2 v_1 h0u3 fun v_3 h0u4 =>
   Q (r.1, v_2.1, v_3.1) h0u4
  )

def ref01uLimbs (x0 : Sl) (h : Heap) (Q : Sl → Heap → Prop) : Prop :=
  new [] h fun a h0 =>
  Let ((⟨some a, 0, 0⟩ : Sl) : Sl) fun out =>
  Let (IntKind.wrap .i64 (((x0.len : Nat) : Int) - 1) : Int) fun i =>
  loop (fun (s0 : Sl × Int) h0u1 (K0 : (Sl × Int) → Heap → Prop) =>
   iteB (decide (s0.2 ≥ 0)) (
    seq (fun (K0u1 : Sl → Heap → Prop) =>
     idxS x0 s0.2 1 fun a_1 =>
     Lift.load (Value.int .i64) a_1 h0u1 fun v_1 =>
     Let (IntKind.wrap .u64 v_1 : Int) fun carry =>
     loop (fun (s0u1 : Int × Int) h0u3 (K0u2 : (Int × Int) → Heap → Prop) =>
      iteB (decide (s0u1.2 < ((s0.1.len : Nat) : Int))) (
       idxS s0.1 s0u1.2 1 fun a_2 =>
       Lift.load (Value.int .u32) a_2 h0u3 fun v_2 =>
       Let (IntKind.wrap .u64 ((IntKind.wrap .u64 ((IntKind.wrap .u64 v_2) * 10)) + s0u1.1) : Int) fun n =>
       idxS s0.1 s0u1.2 1 fun a_3 =>
       Lift.store a_3 (Value.int .u32 (IntKind.wrap .u32 (Int.tmod n 4294967296))) h0u3 fun h0u4 =>
       Let (IntKind.wrap .u64 (Int.tdiv n 4294967296) : Int) fun carry_1 =>
       Let (IntKind.wrap .i64 (s0u1.2 + 1) : Int) fun k =>
       K0u2 (carry_1, k) h0u4
      ) (
       iteB (decide (s0u1.1 > 0)) (
        new [Value.int .u32 (IntKind.wrap .u32 s0u1.1)] h0u3 fun a_4 h0u5 =>
        appendS 1 4 s0.1 (⟨some a_4, 1, 1⟩ : Sl) h0u5 fun v_4 h0u6 =>
        K0u1 v_4 h0u6
       ) (
        K0u1 s0.1 h0u3
       )
      )
     ) (carry, 0) h0u1
    ) (fun t0 h0u2 =>
     Let (IntKind.wrap .i64 (s0.2 - 1) : Int) fun i_1 =>
     K0 (t0, i_1) h0u2
    )
   ) (
    Q s0.1 h0u1
   )
  ) (out, i) h0

def ref02uForm (r : Bool × Sl × Sl) (h : Heap) (Q : (Bool × Sl × Sl) → Heap → Prop) : Prop :=
  mem h fun h0 =>
  ref02uLow (r.1, r.2.1, r.2.2) h0 fun v h0u1 =>
  seq (fun (K0 : (Bool × Sl × Sl) → Heap → Prop) =>
   mem h0u1 fun h0u3 =>
   ref01uLimbs v.2.1 h0u3 fun v_2 h0u6 =>
   mem h0u6 fun h0u7 =>
   K0 (v.1, v_2, Sl.nil) h0u7
  ) (fun t0 h0u2 =>
   seq (fun (K0u1 : (Bool × Sl × Sl) → Heap → Prop) =>
    seq (fun (K0u2 : Bool → Heap → Prop) =>
     iteB (((v.2.2.len : Nat) : Int) != 1) (
      K0u2 true h0u2
     ) (
      idxS v.2.2 0 1 fun a =>
      Lift.load (Value.int .i64) a h0u2 fun v_3 =>
      K0u2 (v_3 != 1) h0u2
     )
    ) (fun t0u2 h0u9 =>
     iteB t0u2 (
      ref01uLimbs v.2.2 h0u9 fun v_4 h0u10 =>
      K0u1 (t0.1, t0.2.1, v_4) h0u10
     ) (
      K0u1 (t0.1, t0.2.1, t0.2.2) h0u9
     )
    )
   ) (fun t0u1 h0u8 =>
    Q (t0u1.1, t0u1.2.1, t0u1.2.2) h0u8
   )
  )

def ref01uSame (a : Sl) (b : Sl) (h : Heap) (Q : Bool → Heap → Prop) : Prop :=
  iteB (((a.len : Nat) : Int) != ((b.len : Nat) : Int)) (
   Q false h
  ) (
   loop (fun (s0 : Int) h0 (K0 : Int → Heap → Prop) =>
    iteB (decide (s0 < ((a.len : Nat) : Int))) (
     idxS a s0 1 fun a_1 =>
     Lift.load (Value.int .u32) a_1 h0 fun v =>
     idxS b s0 1 fun a_2 =>
     Lift.load (Value.int .u32) a_2 h0 fun v_1 =>
     iteB (v != v_1) (
      Q false h0
     ) (
      Let (IntKind.wrap .i64 (s0 + 1) : Int) fun i =>
      K0 i h0
     )
    ) (
     Q true h0
    )
   ) 0 h
  )

def ref02uSame (x0 : Bool × Sl × Sl) (y : Bool × Sl × Sl) (h : Heap) (Q : Bool → Heap → Prop) : Prop :=
  mem h fun h0 =>
  seq (fun (K0 : Bool → Heap → Prop) =>
   iteB (x0.1 == y.1) (
    ref01uSame x0.2.1 y.2.1 h0 fun v h0u2 =>
    iteB v (
     ref01uSame x0.2.2 y.2.2 h0u2 fun v_1 h0u3 =>
     K0 v_1 h0u3
    ) (
     K0 false h0u2
    )
   ) (
    K0 false h0
   )
  ) (fun t0 h0u1 =>
   Q t0 h0u1
  )

def ref02uRight (x0 : Bool × Sl × Sl) (h : Heap) (Q : Bool → Heap → Prop) : Prop :=
  mem h fun h0 =>
  seq (fun (K0 : Bool → Heap → Prop) =>
   iteB (decide (((x0.2.1.len : Nat) : Int) > 0)) (
    idxS x0.2.1 (IntKind.wrap .i64 (((x0.2.1.len : Nat) : Int) - 1)) 1 fun a =>
    Lift.load (Value.int .u32) a h0 fun v =>
    iteB (v == 0) (
     K0 true h0
    ) (
     iteB (decide (((x0.2.2.len : Nat) : Int) > 0)) (
      idxS x0.2.2 (IntKind.wrap .i64 (((x0.2.2.len : Nat) : Int) - 1)) 1 fun a_1 =>
      Lift.load (Value.int .u32) a_1 h0 fun v_1 =>
      iteB (v_1 == 0) (
       K0 true h0
      ) (
       iteB (((x0.2.1.len : Nat) : Int) == 0) (
        K0 x0.1 h0
       ) (
        K0 false h0
       )
      )
     ) (
      iteB (((x0.2.1.len : Nat) : Int) == 0) (
       K0 x0.1 h0
      ) (
       K0 false h0
      )
     )
    )
   ) (
    iteB (decide (((x0.2.2.len : Nat) : Int) > 0)) (
     idxS x0.2.2 (IntKind.wrap .i64 (((x0.2.2.len : Nat) : Int) - 1)) 1 fun a_2 =>
     Lift.load (Value.int .u32) a_2 h0 fun v_2 =>
     iteB (v_2 == 0) (
      K0 true h0
     ) (
      iteB (((x0.2.1.len : Nat) : Int) == 0) (
       K0 x0.1 h0
      ) (
       K0 false h0
      )
     )
    ) (
     iteB (((x0.2.1.len : Nat) : Int) == 0) (
      K0 x0.1 h0
     ) (
      K0 false h0
     )
    )
   )
  ) (fun t0 h0u1 =>
   iteB t0 (
    Q false h0u1
   ) (
    ref02uOf (x0.1, x0.2.1, x0.2.2) h0u1 fun v_3 h0u2 =>
    ref02uForm (v_3.1, v_3.2.1, v_3.2.2) h0u2 fun v_4 h0u3 =>
    ref02uSame (x0.1, x0.2.1, x0.2.2) (v_4.1, v_4.2.1, v_4.2.2) h0u3 fun v_5 h0u4 =>
    Q v_5 h0u4
   )
  )

def ref03uRight (x0 : Bool × Sl × Sl × Bool × Sl × Sl) (h : Heap) (Q : Bool → Heap → Prop) : Prop :=
  mem h fun h0 =>
  seq (fun (K0 : Bool → Heap → Prop) =>
   ref02uRight (x0.1, x0.2.1, x0.2.2.1) h0 fun v h0u2 =>
   iteB v (
    ref02uRight (x0.2.2.2.1, x0.2.2.2.2.1, x0.2.2.2.2.2) h0u2 fun v_1 h0u3 =>
    K0 v_1 h0u3
   ) (
    K0 false h0u2
   )
  ) (fun t0 h0u1 =>
   Q t0 h0u1
  )

def law03uOdd (l : Sl) (h : Heap) (Q : Bool → Heap → Prop) : Prop :=
  loop (fun (s0 : Int) h0 (K0 : Int → Heap → Prop) =>
   iteB (decide (s0 < ((l.len : Nat) : Int))) (
    idxS l s0 6 fun a =>
    loadS C_bool_sl_sl_bool_sl_sl 6 a h0 fun v =>
    mem h0 fun h0u1 =>
    seq (fun (K0u1 : Bool → Heap → Prop) =>
     new [Value.bool v.1, Sl.toV v.2.1, Sl.toV v.2.2.1, Value.bool v.2.2.2.1, Sl.toV v.2.2.2.2.1, Sl.toV v.2.2.2.2.2] h0u1 fun a_1 h0u3 =>
     law02uGreat (⟨some a_1, 2, 2⟩ : Sl) h0u3 fun v_2 h0u4 =>
     iteB v_2 (
      K0u1 true h0u4
     ) (
      ref03uRight (v.1, v.2.1, v.2.2.1, v.2.2.2.1, v.2.2.2.2.1, v.2.2.2.2.2) h0u4 fun v_3 h0u5 =>
      K0u1 (!v_3) h0u5
     )
    ) (fun t0 h0u2 =>
     iteB t0 (
      Q true h0u2
     ) (
      K0 (IntKind.wrap .i64 (s0 + 1)) h0u2
     )
    )
   ) (
    Q false h0
   )
  ) 0 h

def law04ugreat (l : Sl) (h : Heap) (Q : Bool → Heap → Prop) : Prop :=
  iteB (decide (((l.len : Nat) : Int) > 40)) (
   Q true h
  ) (
   loop (fun (s0 : Int) h0 (K0 : Int → Heap → Prop) =>
    iteB (decide (s0 < ((l.len : Nat) : Int))) (
     idxS l s0 10 fun a =>
     loadS C_i64ui64usl_bool_sl_sl_bool_sl_sl_sl 10 a h0 fun v =>
     mem h0 fun h0u1 =>
     seq (fun (K0u1 : Bool → Heap → Prop) =>
      iteB (decide (((v.2.2.1.len : Nat) : Int) > 300)) (
       K0u1 true h0u1
      ) (
       iteB (decide (((v.2.2.2.2.2.2.2.2.2.len : Nat) : Int) > 60)) (
        K0u1 true h0u1
       ) (
        new [Value.bool v.2.2.2.1, Sl.toV v.2.2.2.2.1, Sl.toV v.2.2.2.2.2.1, Value.bool v.2.2.2.2.2.2.1, Sl.toV v.2.2.2.2.2.2.2.1, Sl.toV v.2.2.2.2.2.2.2.2.1] h0u1 fun a_1 h0u3 =>
        law03uOdd (⟨some a_1, 1, 1⟩ : Sl) h0u3 fun v_2 h0u4 =>
        K0u1 v_2 h0u4
       )
      )
     ) (fun t0 h0u2 =>
      iteB t0 (
       Q true h0u2
      ) (
       K0 (IntKind.wrap .i64 (s0 + 1)) h0u2
      )
     )
    ) (
     Q false h0
    )
   ) 0 h
  )

def pack_From (b : Sl) (h : Heap) (Q : ((Option Addr)) → Heap → Prop) : Prop :=
  slices_Clone_byte_byte b h fun v h0 =>
  new [Sl.toV v, Value.bool false] h0 fun a h0u1 =>
  Q (some a) h0u1

def pack_In_fail (in0 : (Option Addr)) (h : Heap) (Q : Unit → Heap → Prop) : Prop :=
  nilChk in0 fun a =>
  storeS a [Sl.toV Sl.nil, Value.bool true] h fun h0 =>
  Q () h0

def pack_In_take (in0 : (Option Addr)) (n : Int) (h : Heap) (Q : Sl → Heap → Prop) : Prop :=
  seq (fun (K0 : Bool → Heap → Prop) =>
   nilChk in0 fun a =>
   Lift.load Value.bool (a.add 1) h fun v =>
   iteB v (
    K0 true h
   ) (
    iteB (decide (n < 0)) (
     K0 true h
    ) (
     nilChk in0 fun a_1 =>
     Lift.load Sl.toV (a_1.add 0) h fun v_1 =>
     K0 (decide (n > ((v_1.len : Nat) : Int))) h
    )
   )
  ) (fun t0 h0 =>
   iteB t0 (
    pack_In_fail in0 h0 fun v_2 h0u1 =>
    Q Sl.nil h0u1
   ) (
    nilChk in0 fun a_2 =>
    Lift.load Sl.toV (a_2.add 0) h0 fun v_3 =>
    sliceOf v_3 none (some n) (some n) 1 fun v_4 =>
    nilChk in0 fun a_3 =>
    Lift.load Sl.toV (a_3.add 0) h0 fun v_5 =>
    sliceOf v_5 (some n) none none 1 fun v_6 =>
    nilChk in0 fun a_4 =>
    Lift.store (a_4.add 0) (Sl.toV v_6) h0 fun h0u2 =>
    Q v_4 h0u2
   )
  )

def pack_In_number (in0 : (Option Addr)) (size : Int) (h : Heap) (Q : Int → Heap → Prop) : Prop :=
  pack_In_take in0 size h fun v h0 =>
  loop (fun (s0 : Int × Int) h0u1 (K0 : (Int × Int) → Heap → Prop) =>
   iteB (decide (s0.2 < ((v.len : Nat) : Int))) (
    idxS v s0.2 1 fun a =>
    Lift.load (Value.int .u8) a h0u1 fun v_1 =>
    Let (IntKind.wrap .u64 (((BitVec.ofInt (IntKind.bits .u64) (IntKind.wrap .u64 (s0.1 * 2 ^ (min (Int.toNat 8) (IntKind.bits .u64)))) ||| BitVec.ofInt (IntKind.bits .u64) (IntKind.wrap .u64 v_1)).toNat : Int)) : Int) fun n =>
    K0 (n, IntKind.wrap .i64 (s0.2 + 1)) h0u1
   ) (
    Q s0.1 h0u1
   )
  ) (0, 0) h0

def pack_In_Int (in0 : (Option Addr)) (h : Heap) (Q : Int → Heap → Prop) : Prop :=
  pack_In_number in0 8 h fun v h0 =>
  Q (IntKind.wrap .i64 v) h0

def ref04uIn_take (in0 : (Option Addr)) (n : Int) (h : Heap) (Q : Sl → Heap → Prop) : Prop :=
  seq (fun (K0 : Bool → Heap → Prop) =>
   nilChk in0 fun a =>
   Lift.load Value.bool (a.add 2) h fun v =>
   iteB v (
    K0 true h
   ) (
    iteB (decide (n < 0)) (
     K0 true h
    ) (
     nilChk in0 fun a_1 =>
     Lift.load Sl.toV (a_1.add 0) h fun v_1 =>
     nilChk in0 fun a_2 =>
     Lift.load (Value.int .i64) (a_2.add 1) h fun v_2 =>
     K0 (decide (n > (IntKind.wrap .i64 (((v_1.len : Nat) : Int) - v_2)))) h
    )
   )
  ) (fun t0 h0 =>
   iteB t0 (
    nilChk in0 fun a_3 =>
    Lift.store (a_3.add 2) (Value.bool true) h0 fun h0u1 =>
    new [] h0u1 fun a_4 h0u2 =>
    Q (⟨some a_4, 0, 0⟩ : Sl) h0u2
   ) (
    nilChk in0 fun a_5 =>
    Lift.load Sl.toV (a_5.add 0) h0 fun v_4 =>
    nilChk in0 fun a_6 =>
    Lift.load (Value.int .i64) (a_6.add 1) h0 fun v_5 =>
    nilChk in0 fun a_7 =>
    Lift.load (Value.int .i64) (a_7.add 1) h0 fun v_6 =>
    sliceOf v_4 (some v_5) (some (IntKind.wrap .i64 (v_6 + n))) none 1 fun v_7 =>
    new [] h0 fun a_8 h0u3 =>
    (cell? h0u3 (a_5.add 0) = some (Sl.toV v_4)) ∧
    (cell? h0u3 (a_6.add 1) = some (Value.int .i64 v_5)) ∧
    (cell? h0u3 (a_7.add 1) = some (Value.int .i64 v_6)) ∧
    appendS 1 1 (⟨some a_8, 0, 0⟩ : Sl) v_7 h0u3 fun v_9 h0u4 =>
    nilChk in0 fun a_9 =>
    Lift.load (Value.int .i64) (a_9.add 1) h0u4 fun v_10 =>
    nilChk in0 fun a_10 =>
    Lift.store (a_10.add 1) (Value.int .i64 (IntKind.wrap .i64 (v_10 + n))) h0u4 fun h0u5 =>
    Q v_9 h0u5
   )
  )

def ref04uIn_Int (in0 : (Option Addr)) (h : Heap) (Q : Int → Heap → Prop) : Prop :=
  ref04uIn_take in0 8 h fun v h0 =>
  loop (fun (s0 : Int × Int) h0u1 (K0 : (Int × Int) → Heap → Prop) =>
   iteB (decide (s0.2 < ((v.len : Nat) : Int))) (
    idxS v s0.2 1 fun a =>
    Lift.load (Value.int .u8) a h0u1 fun v_1 =>
    Let (IntKind.wrap .u64 ((IntKind.wrap .u64 (256 * s0.1)) + (IntKind.wrap .u64 v_1)) : Int) fun n =>
    Let (IntKind.wrap .i64 (s0.2 + 1) : Int) fun i =>
    K0 (n, i) h0u1
   ) (
    Q (IntKind.wrap .i64 s0.1) h0u1
   )
  ) (0, 0) h0

def pack_In_Flag (in0 : (Option Addr)) (h : Heap) (Q : Bool → Heap → Prop) : Prop :=
  pack_In_number in0 1 h fun v h0 =>
  seq (fun (K0 : Unit → Heap → Prop) =>
   iteB (decide (v > 1)) (
    pack_In_fail in0 h0 fun v_1 h0u2 =>
    K0 () h0u2
   ) (
    K0 () h0
   )
  ) (fun t0 h0u1 =>
   Q (v == 1) h0u1
  )

def ref04uIn_Flag (in0 : (Option Addr)) (h : Heap) (Q : Bool → Heap → Prop) : Prop :=
  ref04uIn_take in0 1 h fun v h0 =>
  seq (fun (K0 : Unit → Heap → Prop) =>
   seq (fun (K0u1 : Bool → Heap → Prop) =>
    iteB (((v.len : Nat) : Int) == 1) (
     idxS v 0 1 fun a =>
     Lift.load (Value.int .u8) a h0 fun v_1 =>
     K0u1 (decide (v_1 > 1)) h0
    ) (
     K0u1 false h0
    )
   ) (fun t0u1 h0u2 =>
    iteB t0u1 (
     nilChk in0 fun a_1 =>
     Lift.store (a_1.add 2) (Value.bool true) h0u2 fun h0u3 =>
     K0 () h0u3
    ) (
     K0 () h0u2
    )
   )
  ) (fun t0 h0u1 =>
   seq (fun (K0u2 : Bool → Heap → Prop) =>
    iteB (((v.len : Nat) : Int) == 1) (
     idxS v 0 1 fun a_2 =>
     Lift.load (Value.int .u8) a_2 h0u1 fun v_2 =>
     K0u2 (v_2 == 1) h0u1
    ) (
     K0u2 false h0u1
    )
   ) (fun t0u2 h0u4 =>
    Q t0u2 h0u4
   )
  )

def pack_In_Count (in0 : (Option Addr)) (least : Int) (h : Heap) (Q : Int → Heap → Prop) : Prop :=
  pack_In_Int in0 h fun v h0 =>
  seq (fun (K0 : Bool → Heap → Prop) =>
   iteB (decide (v < 0)) (
    K0 true h0
   ) (
    nilChk in0 fun a =>
    Lift.load Sl.toV (a.add 0) h0 fun v_1 =>
    ((if 1 > least then 1 else least) ≠ 0) ∧
    K0 (decide (v > (IntKind.wrap .i64 (Int.tdiv ((v_1.len : Nat) : Int) (if 1 > least then 1 else least))))) h0
   )
  ) (fun t0 h0u1 =>
   iteB t0 (
    pack_In_fail in0 h0u1 fun v_2 h0u2 =>
    Q 0 h0u2
   ) (
    Q v h0u1
   )
  )

def pack_In_Bytes (in0 : (Option Addr)) (h : Heap) (Q : Sl → Heap → Prop) : Prop :=
  pack_In_Count in0 1 h fun v h0 =>
  pack_In_take in0 v h0 fun v_1 h0u1 =>
  slices_Clone_byte_byte v_1 h0u1 fun v_2 h0u2 =>
  Q v_2 h0u2

def ref04uIn_Count (in0 : (Option Addr)) (least : Int) (h : Heap) (Q : Int → Heap → Prop) : Prop :=
  ref04uIn_Int in0 h fun v h0 =>
  seq (fun (K0 : Int → Heap → Prop) =>
   iteB (decide (least < 1)) (
    K0 1 h0
   ) (
    K0 least h0
   )
  ) (fun t0 h0u1 =>
   seq (fun (K0u1 : Bool → Heap → Prop) =>
    nilChk in0 fun a =>
    Lift.load Value.bool (a.add 2) h0u1 fun v_1 =>
    iteB v_1 (
     K0u1 true h0u1
    ) (
     iteB (decide (v < 0)) (
      K0u1 true h0u1
     ) (
      nilChk in0 fun a_1 =>
      Lift.load Sl.toV (a_1.add 0) h0u1 fun v_2 =>
      nilChk in0 fun a_2 =>
      Lift.load (Value.int .i64) (a_2.add 1) h0u1 fun v_3 =>
      (t0 ≠ 0) ∧
      K0u1 (decide (v > (IntKind.wrap .i64 (Int.tdiv (IntKind.wrap .i64 (((v_2.len : Nat) : Int) - v_3)) t0)))) h0u1
     )
    )
   ) (fun t0u1 h0u2 =>
    iteB t0u1 (
     nilChk in0 fun a_3 =>
     Lift.store (a_3.add 2) (Value.bool true) h0u2 fun h0u3 =>
     Q 0 h0u3
    ) (
     Q v h0u2
    )
   )
  )

def ref04uIn_Bytes (in0 : (Option Addr)) (h : Heap) (Q : Sl → Heap → Prop) : Prop :=
  ref04uIn_Count in0 1 h fun v h0 =>
  ref04uIn_take in0 v h0 fun v_1 h0u1 =>
  Q v_1 h0u1

def pack_In_limb (in0 : (Option Addr)) (h : Heap) (Q : Int → Heap → Prop) : Prop :=
  pack_In_number in0 4 h fun v h0 =>
  Q (IntKind.wrap .u32 v) h0

def nat_trim (x0 : Sl) (h : Heap) (Q : Sl → Heap → Prop) : Prop :=
  loop (fun (s0 : Sl) h0 (K0 : Sl → Heap → Prop) =>
   seq (fun (K0u1 : Bool → Heap → Prop) =>
    iteB (decide (((s0.len : Nat) : Int) > 0)) (
     idxS s0 (IntKind.wrap .i64 (((s0.len : Nat) : Int) - 1)) 1 fun a =>
     Lift.load (Value.int .u32) a h0 fun v =>
     K0u1 (v == 0) h0
    ) (
     K0u1 false h0
    )
   ) (fun t0 h0u1 =>
    iteB t0 (
     sliceOf s0 none (some (IntKind.wrap .i64 (((s0.len : Nat) : Int) - 1))) none 1 fun v_1 =>
     K0 v_1 h0u1
    ) (
     Q s0 h0u1
    )
   )
  ) x0 h

def nat_Right (x0 : Sl) (h : Heap) (Q : Bool → Heap → Prop) : Prop :=
  nat_trim x0 h fun v h0 =>
  Q (((v.len : Nat) : Int) == ((x0.len : Nat) : Int)) h0

def ratio_one (h : Heap) (Q : Sl → Heap → Prop) : Prop :=
  new [Value.int .u32 1] h fun a h0 =>
  Q (⟨some a, 1, 1⟩ : Sl) h0

def slices_Equal_api_Nat_uint32 (s1 : Sl) (s2 : Sl) (h : Heap) (Q : Bool → Heap → Prop) : Prop :=
  iteB (((s1.len : Nat) : Int) != ((s2.len : Nat) : Int)) (
   Q false h
  ) (
   loop (fun (s0 : Int) h0 (K0 : Int → Heap → Prop) =>
    iteB (decide (s0 < ((s1.len : Nat) : Int))) (
     idxS s1 s0 1 fun a =>
     Lift.load (Value.int .u32) a h0 fun v =>
     idxS s2 s0 1 fun a_1 =>
     Lift.load (Value.int .u32) a_1 h0 fun v_1 =>
     iteB (v != v_1) (
      Q false h0
     ) (
      K0 (IntKind.wrap .i64 (s0 + 1)) h0
     )
    ) (
     Q true h0
    )
   ) 0 h
  )

def ratio_isOne (x0 : Sl) (h : Heap) (Q : Bool → Heap → Prop) : Prop :=
  ratio_one h fun v h0 =>
  slices_Equal_api_Nat_uint32 x0 v h0 fun v_1 h0u1 =>
  Q v_1 h0u1

def nat_New (limbs : Int) (h : Heap) (Q : ((Option Addr)) → Heap → Prop) : Prop :=
  new [Value.int .i64 (if 1 > limbs then 1 else limbs), Value.bool false] h fun a h0 =>
  Q (some a) h0

def ratio_free (h : Heap) (Q : ((Option Addr)) → Heap → Prop) : Prop :=
  nat_New 16777216 h fun v h0 =>
  Q v h0

def ratio_den (x0 : Bool × Sl × Sl) (h : Heap) (Q : Sl → Heap → Prop) : Prop :=
  mem h fun h0 =>
  iteB (((x0.2.2.len : Nat) : Int) == 0) (
   ratio_one h0 fun v h0u1 =>
   Q v h0u1
  ) (
   Q x0.2.2 h0
  )

def nat_small (x0 : Sl) (h : Heap) (Q : (Int × Bool) → Heap → Prop) : Prop :=
  nat_trim x0 h fun v h0 =>
  Let (IntKind.wrap .i64 (((v.len : Nat) : Int) - 1) : Int) fun i =>
  loop (fun (s0 : Int × Int) h0u1 (K0 : (Int × Int) → Heap → Prop) =>
   iteB (decide (s0.2 ≥ 0)) (
    idxS v s0.2 1 fun a =>
    Lift.load (Value.int .u32) a h0u1 fun v_1 =>
    Let (IntKind.wrap .u64 (((BitVec.ofInt (IntKind.bits .u64) (IntKind.wrap .u64 (s0.1 * 2 ^ (min (Int.toNat 32) (IntKind.bits .u64)))) ||| BitVec.ofInt (IntKind.bits .u64) (IntKind.wrap .u64 v_1)).toNat : Int)) : Int) fun n =>
    Let (IntKind.wrap .i64 (s0.2 - 1) : Int) fun i_1 =>
    K0 (n, i_1) h0u1
   ) (
    Let (decide (((v.len : Nat) : Int) ≤ 2) : Bool) fun ok =>
    Q (s0.1, ok) h0u1
   )
  ) (0, i) h0

def nat_Of (n : Int) (h : Heap) (Q : Sl → Heap → Prop) : Prop :=
  new [Value.int .u32 (IntKind.wrap .u32 n), Value.int .u32 (IntKind.wrap .u32 (Int.fdiv n (2 ^ (min (Int.toNat 32) (IntKind.bits .u64)))))] h fun a h0 =>
  nat_trim (⟨some a, 2, 2⟩ : Sl) h0 fun v_1 h0u1 =>
  Q v_1 h0u1

def math_bits_TrailingZeros32 (x0 : Int) (h : Heap) (Q : Int → Heap → Prop) : Prop :=
  iteB (x0 == 0) (
   Q 32 h
  ) (
   ((0 : Int) ≤ ((Int.fdiv (IntKind.wrap .u32 ((IntKind.wrap .u32 (((BitVec.ofInt (IntKind.bits .u32) x0 &&& BitVec.ofInt (IntKind.bits .u32) (IntKind.wrap .u32 (0 - x0))).toNat : Int))) * 125613361)) (2 ^ (min (Int.toNat 27) (IntKind.bits .u32)))) : Int) ∧ ((Int.fdiv (IntKind.wrap .u32 ((IntKind.wrap .u32 (((BitVec.ofInt (IntKind.bits .u32) x0 &&& BitVec.ofInt (IntKind.bits .u32) (IntKind.wrap .u32 (0 - x0))).toNat : Int))) * 125613361)) (2 ^ (min (Int.toNat 27) (IntKind.bits .u32)))) : Int) < 32) ∧
   Lift.load (Value.int .u8) ((⟨g_math_bits_deBruijn32tab, 0, none⟩ : Addr).add (Int.toNat (Int.fdiv (IntKind.wrap .u32 ((IntKind.wrap .u32 (((BitVec.ofInt (IntKind.bits .u32) x0 &&& BitVec.ofInt (IntKind.bits .u32) (IntKind.wrap .u32 (0 - x0))).toNat : Int))) * 125613361)) (2 ^ (min (Int.toNat 27) (IntKind.bits .u32)))) * 1)) h fun v =>
   Q (IntKind.wrap .i64 v) h
  )

def slices_Clone_api_Nat_uint32 (s0 : Sl) (h : Heap) (Q : Sl → Heap → Prop) : Prop :=
  iteB s0.a.isNone (
   Q Sl.nil h
  ) (
   new [] h fun a h0 =>
   appendS 1 4 (⟨some a, 0, 0⟩ : Sl) s0 h0 fun v_1 h0u1 =>
   Q v_1 h0u1
  )

def nat_halve (x0 : Sl) (h : Heap) (Q : (Sl × Int) → Heap → Prop) : Prop :=
  loop (fun (s0 : Int) h0 (K0 : Int → Heap → Prop) =>
   idxS x0 (IntKind.wrap .i64 (Int.tdiv s0 32)) 1 fun a =>
   Lift.load (Value.int .u32) a h0 fun v =>
   iteB (v == 0) (
    Let (IntKind.wrap .i64 (s0 + 32) : Int) fun k =>
    K0 k h0
   ) (
    idxS x0 (IntKind.wrap .i64 (Int.tdiv s0 32)) 1 fun a_1 =>
    Lift.load (Value.int .u32) a_1 h0 fun v_1 =>
    math_bits_TrailingZeros32 v_1 h0 fun v_2 h0u1 =>
    Let (IntKind.wrap .i64 (s0 + v_2) : Int) fun k_1 =>
    sliceOf x0 (some (IntKind.wrap .i64 (Int.tdiv k_1 32))) none none 1 fun v_3 =>
    slices_Clone_api_Nat_uint32 v_3 h0u1 fun v_4 h0u2 =>
    seq (fun (K0u1 : Unit → Heap → Prop) =>
     Let (Int.tmod k_1 32 : Int) fun s0u1 =>
     iteB (decide (s0u1 > 0)) (
      loop (fun (s0u2 : Int) h0u4 (K0u2 : Int → Heap → Prop) =>
       iteB (decide (s0u2 < ((v_4.len : Nat) : Int))) (
        seq (fun (K0u3 : Unit → Heap → Prop) =>
         idxS v_4 s0u2 1 fun a_2 =>
         Lift.load (Value.int .u32) a_2 h0u4 fun v_5 =>
         (0 ≤ s0u1) ∧
         idxS v_4 s0u2 1 fun a_3 =>
         Lift.store a_3 (Value.int .u32 (Int.fdiv v_5 (2 ^ (min (Int.toNat s0u1) (IntKind.bits .u32))))) h0u4 fun h0u6 =>
         iteB (decide ((IntKind.wrap .i64 (s0u2 + 1)) < ((v_4.len : Nat) : Int))) (
          idxS v_4 s0u2 1 fun a_4 =>
          Lift.load (Value.int .u32) a_4 h0u6 fun v_6 =>
          idxS v_4 (IntKind.wrap .i64 (s0u2 + 1)) 1 fun a_5 =>
          Lift.load (Value.int .u32) a_5 h0u6 fun v_7 =>
          (0 ≤ (IntKind.wrap .i64 (32 - s0u1))) ∧
          idxS v_4 s0u2 1 fun a_6 =>
          Lift.store a_6 (Value.int .u32 (IntKind.wrap .u32 (((BitVec.ofInt (IntKind.bits .u32) v_6 ||| BitVec.ofInt (IntKind.bits .u32) (IntKind.wrap .u32 (v_7 * 2 ^ (min (Int.toNat (IntKind.wrap .i64 (32 - s0u1))) (IntKind.bits .u32))))).toNat : Int)))) h0u6 fun h0u7 =>
          K0u3 () h0u7
         ) (
          K0u3 () h0u6
         )
        ) (fun t0u1 h0u5 =>
         K0u2 (IntKind.wrap .i64 (s0u2 + 1)) h0u5
        )
       ) (
        K0u1 () h0u4
       )
      ) 0 h0u2
     ) (
      K0u1 () h0u2
     )
    ) (fun t0 h0u3 =>
     nat_trim v_4 h0u3 fun v_8 h0u8 =>
     Q (v_8, k_1) h0u8
    )
   )
  ) 0 h

def nat_sign (n : Int) (h : Heap) (Q : Int → Heap → Prop) : Prop :=
  Q (if (-1) > (if 1 < n then 1 else n) then (-1) else (if 1 < n then 1 else n)) h

def nat_Cmp (x0 : Sl) (y : Sl) (h : Heap) (Q : Int → Heap → Prop) : Prop :=
  nat_trim x0 h fun v h0 =>
  nat_trim y h0 fun v_1 h0u1 =>
  iteB (((v.len : Nat) : Int) != ((v_1.len : Nat) : Int)) (
   nat_sign (IntKind.wrap .i64 (((v.len : Nat) : Int) - ((v_1.len : Nat) : Int))) h0u1 fun v_2 h0u2 =>
   Q v_2 h0u2
  ) (
   Let (IntKind.wrap .i64 (((v.len : Nat) : Int) - 1) : Int) fun i =>
   loop (fun (s0 : Int) h0u3 (K0 : Int → Heap → Prop) =>
    iteB (decide (s0 ≥ 0)) (
     idxS v s0 1 fun a =>
     Lift.load (Value.int .u32) a h0u3 fun v_3 =>
     idxS v_1 s0 1 fun a_1 =>
     Lift.load (Value.int .u32) a_1 h0u3 fun v_4 =>
     iteB (v_3 != v_4) (
      idxS v s0 1 fun a_2 =>
      Lift.load (Value.int .u32) a_2 h0u3 fun v_5 =>
      idxS v_1 s0 1 fun a_3 =>
      Lift.load (Value.int .u32) a_3 h0u3 fun v_6 =>
      nat_sign (IntKind.wrap .i64 ((IntKind.wrap .i64 v_5) - (IntKind.wrap .i64 v_6))) h0u3 fun v_7 h0u4 =>
      Q v_7 h0u4
     ) (
      Let (IntKind.wrap .i64 (s0 - 1) : Int) fun i_1 =>
      K0 i_1 h0u3
     )
    ) (
     Q 0 h0u3
    )
   ) i h0u1
  )

def nat_minus (x0 : Sl) (y : Sl) (h : Heap) (Q : Sl → Heap → Prop) : Prop :=
  loop (fun (s0 : Sl × Int × Int) h0 (K0 : (Sl × Int × Int) → Heap → Prop) =>
   iteB (decide (s0.2.2 < ((x0.len : Nat) : Int))) (
    idxS x0 s0.2.2 1 fun a =>
    Lift.load (Value.int .u32) a h0 fun v =>
    Let (IntKind.wrap .u64 ((IntKind.wrap .u64 v) - s0.2.1) : Int) fun d =>
    seq (fun (K0u1 : Int → Heap → Prop) =>
     iteB (decide (s0.2.2 < ((y.len : Nat) : Int))) (
      idxS y s0.2.2 1 fun a_1 =>
      Lift.load (Value.int .u32) a_1 h0 fun v_1 =>
      Let (IntKind.wrap .u64 (d - (IntKind.wrap .u64 v_1)) : Int) fun d_1 =>
      K0u1 d_1 h0
     ) (
      K0u1 d h0
     )
    ) (fun t0 h0u1 =>
     new [Value.int .u32 (IntKind.wrap .u32 t0)] h0u1 fun a_2 h0u2 =>
     appendS 1 4 s0.1 (⟨some a_2, 1, 1⟩ : Sl) h0u2 fun v_3 h0u3 =>
     Let (Int.fdiv t0 (2 ^ (min (Int.toNat 63) (IntKind.bits .u64))) : Int) fun borrow =>
     K0 (v_3, borrow, IntKind.wrap .i64 (s0.2.2 + 1)) h0u3
    )
   ) (
    nat_trim s0.1 h0 fun v_4 h0u4 =>
    Q v_4 h0u4
   )
  ) (Sl.nil, 0, 0) h

def nat_times (x0 : Sl) (y : Sl) (h : Heap) (Q : Sl → Heap → Prop) : Prop :=
  Let (IntKind.wrap .i64 (((x0.len : Nat) : Int) + ((y.len : Nat) : Int)) : Int) fun t15 =>
  mkS [Value.int .u32 0] 4 t15 t15 h fun v h0 =>
  loop (fun (s0 : Int) h0u1 (K0 : Int → Heap → Prop) =>
   iteB (decide (s0 < ((x0.len : Nat) : Int))) (
    idxS x0 s0 1 fun a =>
    Lift.load (Value.int .u32) a h0u1 fun v_1 =>
    loop (fun (s0u1 : Int × Int) h0u2 (K0u1 : (Int × Int) → Heap → Prop) =>
     iteB (decide (s0u1.2 < ((y.len : Nat) : Int))) (
      idxS y s0u1.2 1 fun a_1 =>
      Lift.load (Value.int .u32) a_1 h0u2 fun v_2 =>
      idxS v (IntKind.wrap .i64 (s0 + s0u1.2)) 1 fun a_2 =>
      Lift.load (Value.int .u32) a_2 h0u2 fun v_3 =>
      Let (IntKind.wrap .u64 (s0u1.1 + (IntKind.wrap .u64 ((IntKind.wrap .u64 ((IntKind.wrap .u64 v_1) * (IntKind.wrap .u64 v_2))) + (IntKind.wrap .u64 v_3)))) : Int) fun carry =>
      idxS v (IntKind.wrap .i64 (s0 + s0u1.2)) 1 fun a_3 =>
      Lift.store a_3 (Value.int .u32 (IntKind.wrap .u32 carry)) h0u2 fun h0u3 =>
      Let (Int.fdiv carry (2 ^ (min (Int.toNat 32) (IntKind.bits .u64))) : Int) fun carry_1 =>
      K0u1 (carry_1, IntKind.wrap .i64 (s0u1.2 + 1)) h0u3
     ) (
      idxS v (IntKind.wrap .i64 (s0 + ((y.len : Nat) : Int))) 1 fun a_4 =>
      Lift.store a_4 (Value.int .u32 (IntKind.wrap .u32 s0u1.1)) h0u2 fun h0u4 =>
      K0 (IntKind.wrap .i64 (s0 + 1)) h0u4
     )
    ) (0, 0) h0u1
   ) (
    Q v h0u1
   )
  ) 0 h0

def nat_double (x0 : Sl) (k : Int) (h : Heap) (Q : Sl → Heap → Prop) : Prop :=
  Let (IntKind.wrap .i64 ((IntKind.wrap .i64 (Int.tdiv k 32)) + 1) : Int) fun t8 =>
  mkS [Value.int .u32 0] 4 t8 t8 h fun v h0 =>
  (0 ≤ (Int.tmod k 32)) ∧
  idxS v (IntKind.wrap .i64 (Int.tdiv k 32)) 1 fun a =>
  Lift.store a (Value.int .u32 (IntKind.wrap .u32 (1 * 2 ^ (min (Int.toNat (Int.tmod k 32)) (IntKind.bits .u32))))) h0 fun h0u1 =>
  nat_times x0 v h0u1 fun v_1 h0u2 =>
  nat_trim v_1 h0u2 fun v_2 h0u3 =>
  Q v_2 h0u3

def nat_common (x0 : Sl) (y : Sl) (h : Heap) (Q : Sl → Heap → Prop) : Prop :=
  nat_trim x0 h fun v h0 =>
  nat_trim y h0 fun v_1 h0u1 =>
  iteB (((v.len : Nat) : Int) == 0) (
   Q v_1 h0u1
  ) (
   iteB (((v_1.len : Nat) : Int) == 0) (
    Q v h0u1
   ) (
    seq (fun (K0 : Unit → Heap → Prop) =>
     nat_small v h0u1 fun v_2 h0u3 =>
     iteB v_2.2 (
      nat_small v_1 h0u3 fun v_3 h0u4 =>
      iteB v_3.2 (
       loop (fun (s0 : Int × Int) h0u5 (K0u1 : (Int × Int) → Heap → Prop) =>
        iteB (s0.2 != 0) (
         (s0.2 ≠ 0) ∧
         Let (Int.tmod s0.1 s0.2 : Int) fun m0 =>
         K0u1 (s0.2, m0) h0u5
        ) (
         nat_Of s0.1 h0u5 fun v_4 h0u6 =>
         Q v_4 h0u6
        )
       ) (v_2.1, v_3.1) h0u4
      ) (
       K0 () h0u4
      )
     ) (
      K0 () h0u3
     )
    ) (fun t0 h0u2 =>
     nat_halve v h0u2 fun v_5 h0u7 =>
     nat_halve v_1 h0u7 fun v_6 h0u8 =>
     loop (fun (s0u1 : Sl × Sl) h0u9 (K0u2 : (Sl × Sl) → Heap → Prop) =>
      nat_Cmp s0u1.1 s0u1.2 h0u9 fun v_7 h0u10 =>
      iteB (v_7 != 0) (
       seq (fun (K0u3 : (Sl × Sl) → Heap → Prop) =>
        nat_Cmp s0u1.1 s0u1.2 h0u10 fun v_8 h0u12 =>
        iteB (decide (v_8 < 0)) (
         K0u3 (s0u1.2, s0u1.1) h0u12
        ) (
         K0u3 (s0u1.1, s0u1.2) h0u12
        )
       ) (fun t0u1 h0u11 =>
        nat_minus t0u1.1 t0u1.2 h0u11 fun v_9 h0u13 =>
        nat_halve v_9 h0u13 fun v_10 h0u14 =>
        K0u2 (v_10.1, t0u1.2) h0u14
       )
      ) (
       nat_double s0u1.1 (if v_6.2 < v_5.2 then v_6.2 else v_5.2) h0u10 fun v_11 h0u15 =>
       Q v_11 h0u15
      )
     ) (v_5.1, v_6.1) h0u8
    )
   )
  )

def nat_Bench_fit (b : (Option Addr)) (x0 : Sl) (h : Heap) (Q : Sl → Heap → Prop) : Prop :=
  nat_trim x0 h fun v h0 =>
  seq (fun (K0 : Unit → Heap → Prop) =>
   nilChk b fun a =>
   Lift.load Value.bool (a.add 1) h0 fun v_1 =>
   iteB v_1 (
    nilChk b fun a_1 =>
    Lift.store (a_1.add 1) (Value.bool true) h0 fun h0u2 =>
    K0 () h0u2
   ) (
    nilChk b fun a_2 =>
    Lift.load (Value.int .i64) (a_2.add 0) h0 fun v_2 =>
    nilChk b fun a_3 =>
    Lift.store (a_3.add 1) (Value.bool (decide (((v.len : Nat) : Int) > v_2))) h0 fun h0u3 =>
    K0 () h0u3
   )
  ) (fun t0 h0u1 =>
   nilChk b fun a_4 =>
   Lift.load Value.bool (a_4.add 1) h0u1 fun v_3 =>
   iteB v_3 (
    Q Sl.nil h0u1
   ) (
    slices_Clone_api_Nat_uint32 v h0u1 fun v_4 h0u4 =>
    Q v_4 h0u4
   )
  )

def nat_Bench_Gcd (b : (Option Addr)) (x0 : Sl) (y : Sl) (h : Heap) (Q : Sl → Heap → Prop) : Prop :=
  nat_common x0 y h fun v h0 =>
  nat_Bench_fit b v h0 fun v_1 h0u1 =>
  Q v_1 h0u1

def ratio_Right (x0 : Bool × Sl × Sl) (h : Heap) (Q : Bool → Heap → Prop) : Prop :=
  mem h fun h0 =>
  seq (fun (K0 : Bool → Heap → Prop) =>
   nat_Right x0.2.1 h0 fun v h0u2 =>
   iteB (!v) (
    K0 true h0u2
   ) (
    nat_Right x0.2.2 h0u2 fun v_1 h0u3 =>
    iteB (!v_1) (
     K0 true h0u3
    ) (
     ratio_isOne x0.2.2 h0u3 fun v_2 h0u4 =>
     K0 v_2 h0u4
    )
   )
  ) (fun t0 h0u1 =>
   iteB t0 (
    Q false h0u1
   ) (
    iteB (((x0.2.1.len : Nat) : Int) == 0) (
     seq (fun (K0u1 : Bool → Heap → Prop) =>
      iteB (!x0.1) (
       K0u1 (((x0.2.2.len : Nat) : Int) == 0) h0u1
      ) (
       K0u1 false h0u1
      )
     ) (fun t0u1 h0u5 =>
      Q t0u1 h0u5
     )
    ) (
     ratio_free h0u1 fun v_3 h0u6 =>
     ratio_den (x0.1, x0.2.1, x0.2.2) h0u6 fun v_4 h0u7 =>
     nat_Bench_Gcd v_3 x0.2.1 v_4 h0u7 fun v_5 h0u8 =>
     ratio_isOne v_5 h0u8 fun v_6 h0u9 =>
     Q v_6 h0u9
    )
   )
  )

def pack_Take_uint32u_pack_In_limb (in0 : (Option Addr)) (least : Int) (take_b : (Option Addr)) (h : Heap) (Q : Sl → Heap → Prop) : Prop :=
  pack_In_Count in0 least h fun v h0 =>
  loop (fun (s0 : Sl × Int) h0u1 (K0 : (Sl × Int) → Heap → Prop) =>
   iteB (decide (s0.2 < v)) (
    pack_In_limb take_b h0u1 fun v_1 h0u2 =>
    new [Value.int .u32 v_1] h0u2 fun a h0u3 =>
    appendS 1 4 s0.1 (⟨some a, 1, 1⟩ : Sl) h0u3 fun v_3 h0u4 =>
    nilChk in0 fun a_1 =>
    Lift.load Value.bool (a_1.add 1) h0u4 fun v_4 =>
    iteB v_4 (
     Q Sl.nil h0u4
    ) (
     K0 (v_3, IntKind.wrap .i64 (s0.2 + 1)) h0u4
    )
   ) (
    Q s0.1 h0u1
   )
  ) (Sl.nil, 0) h0

def pack_In_Ratio (in0 : (Option Addr)) (h : Heap) (Q : (Bool × Sl × Sl) → Heap → Prop) : Prop :=
  mem h fun h0 =>
  pack_In_Flag in0 h0 fun v h0u1 =>
  pack_Take_uint32u_pack_In_limb in0 4 in0 h0u1 fun v_1 h0u2 =>
  pack_Take_uint32u_pack_In_limb in0 4 in0 h0u2 fun v_2 h0u3 =>
  seq (fun (K0 : Bool → Heap → Prop) =>
   nilChk in0 fun a =>
   Lift.load Value.bool (a.add 1) h0u3 fun v_3 =>
   iteB v_3 (
    K0 true h0u3
   ) (
    ratio_Right (v, v_1, v_2) h0u3 fun v_4 h0u5 =>
    K0 (!v_4) h0u5
   )
  ) (fun t0 h0u4 =>
   iteB t0 (
    pack_In_fail in0 h0u4 fun v_5 h0u6 =>
    Q (false, Sl.nil, Sl.nil) h0u6
   ) (
    Q (v, v_1, v_2) h0u4
   )
  )

def ref04uIn_limbs (in0 : (Option Addr)) (h : Heap) (Q : Sl → Heap → Prop) : Prop :=
  ref04uIn_Count in0 4 h fun v h0 =>
  new [] h0 fun a h0u1 =>
  Let ((⟨some a, 0, 0⟩ : Sl) : Sl) fun out =>
  loop (fun (s0 : Sl × Int) h0u2 (K0 : (Sl × Int) → Heap → Prop) =>
   iteB (decide (s0.2 < v)) (
    ref04uIn_take in0 4 h0u2 fun v_2 h0u3 =>
    idxS v_2 0 1 fun a_1 =>
    Lift.load (Value.int .u8) a_1 h0u3 fun v_3 =>
    idxS v_2 1 1 fun a_2 =>
    Lift.load (Value.int .u8) a_2 h0u3 fun v_4 =>
    idxS v_2 2 1 fun a_3 =>
    Lift.load (Value.int .u8) a_3 h0u3 fun v_5 =>
    idxS v_2 3 1 fun a_4 =>
    Lift.load (Value.int .u8) a_4 h0u3 fun v_6 =>
    new [Value.int .u32 (IntKind.wrap .u32 ((IntKind.wrap .u32 ((IntKind.wrap .u32 ((IntKind.wrap .u32 ((IntKind.wrap .u32 v_3) * 16777216)) + (IntKind.wrap .u32 ((IntKind.wrap .u32 v_4) * 65536)))) + (IntKind.wrap .u32 ((IntKind.wrap .u32 v_5) * 256)))) + (IntKind.wrap .u32 v_6)))] h0u3 fun a_5 h0u4 =>
    appendS 1 4 s0.1 (⟨some a_5, 1, 1⟩ : Sl) h0u4 fun v_8 h0u5 =>
    Let (IntKind.wrap .i64 (s0.2 + 1) : Int) fun i =>
    K0 (v_8, i) h0u5
   ) (
    Q s0.1 h0u2
   )
  ) (out, 0) h0u1

def ref04uIn_Ratio (in0 : (Option Addr)) (h : Heap) (Q : (Bool × Sl × Sl) → Heap → Prop) : Prop :=
  mem h fun h0 =>
  mem h0 fun h0u1 =>
  ref04uIn_Flag in0 h0u1 fun v h0u2 =>
  ref04uIn_limbs in0 h0u2 fun v_1 h0u3 =>
  ref04uIn_limbs in0 h0u3 fun v_2 h0u4 =>
  seq (fun (K0 : Bool → Heap → Prop) =>
   nilChk in0 fun a =>
   Lift.load Value.bool (a.add 2) h0u4 fun v_3 =>
   iteB v_3 (
    K0 true h0u4
   ) (
    ref02uRight (v, v_1, v_2) h0u4 fun v_4 h0u6 =>
    K0 (!v_4) h0u6
   )
  ) (fun t0 h0u5 =>
   iteB t0 (
    nilChk in0 fun a_1 =>
    Lift.store (a_1.add 2) (Value.bool true) h0u5 fun h0u7 =>
    Q (false, Sl.nil, Sl.nil) h0u7
   ) (
    Q (v, v_1, v_2) h0u5
   )
  )

def ref03uSame (x0 : Bool × Sl × Sl × Bool × Sl × Sl) (y : Bool × Sl × Sl × Bool × Sl × Sl) (h : Heap) (Q : Bool → Heap → Prop) : Prop :=
  mem h fun h0 =>
  seq (fun (K0 : Bool → Heap → Prop) =>
   ref02uSame (x0.1, x0.2.1, x0.2.2.1) (y.1, y.2.1, y.2.2.1) h0 fun v h0u2 =>
   iteB v (
    ref02uSame (x0.2.2.2.1, x0.2.2.2.2.1, x0.2.2.2.2.2) (y.2.2.2.1, y.2.2.2.2.1, y.2.2.2.2.2) h0u2 fun v_1 h0u3 =>
    K0 v_1 h0u3
   ) (
    K0 false h0u2
   )
  ) (fun t0 h0u1 =>
   Q t0 h0u1
  )

def pack_In_Delta (in0 : (Option Addr)) (h : Heap) (Q : (Bool × Sl × Sl × Bool × Sl × Sl) → Heap → Prop) : Prop :=
  mem h fun h0 =>
  pack_In_Ratio in0 h0 fun v h0u1 =>
  pack_In_Ratio in0 h0u1 fun v_1 h0u2 =>
  nilChk in0 fun a =>
  Lift.load Value.bool (a.add 1) h0u2 fun v_2 =>
  iteB v_2 (
   Q (false, Sl.nil, Sl.nil, false, Sl.nil, Sl.nil) h0u2
  ) (
   Q (v.1, v.2.1, v.2.2, v_1.1, v_1.2.1, v_1.2.2) h0u2
  )

def ref04uIn_Delta (in0 : (Option Addr)) (h : Heap) (Q : (Bool × Sl × Sl × Bool × Sl × Sl) → Heap → Prop) : Prop :=
  mem h fun h0 =>
  mem h0 fun h0u1 =>
  ref04uIn_Ratio in0 h0u1 fun v h0u2 =>
  ref04uIn_Ratio in0 h0u2 fun v_1 h0u3 =>
  nilChk in0 fun a =>
  Lift.load Value.bool (a.add 2) h0u3 fun v_2 =>
  iteB v_2 (
   Q (false, Sl.nil, Sl.nil, false, Sl.nil, Sl.nil) h0u3
  ) (
   Q (v.1, v.2.1, v.2.2, v_1.1, v_1.2.1, v_1.2.2) h0u3
  )

def pack_Take_int__pack_In_Int (in0 : (Option Addr)) (least : Int) (take_b : (Option Addr)) (h : Heap) (Q : Sl → Heap → Prop) : Prop :=
  pack_In_Count in0 least h fun v h0 =>
  loop (fun (s0 : Sl × Int) h0u1 (K0 : (Sl × Int) → Heap → Prop) =>
   iteB (decide (s0.2 < v)) (
    pack_In_Int take_b h0u1 fun v_1 h0u2 =>
    new [Value.int .i64 v_1] h0u2 fun a h0u3 =>
    appendS 1 8 s0.1 (⟨some a, 1, 1⟩ : Sl) h0u3 fun v_3 h0u4 =>
    nilChk in0 fun a_1 =>
    Lift.load Value.bool (a_1.add 1) h0u4 fun v_4 =>
    iteB v_4 (
     Q Sl.nil h0u4
    ) (
     K0 (v_3, IntKind.wrap .i64 (s0.2 + 1)) h0u4
    )
   ) (
    Q s0.1 h0u1
   )
  ) (Sl.nil, 0) h0

def law04utake (in0 : (Option Addr)) (x0 : (Option Addr)) (t0 : Int × Int × Sl × Bool × Sl × Sl × Bool × Sl × Sl × Sl) (h : Heap) (Q : Bool → Heap → Prop) : Prop :=
  mem h fun h0 =>
  iteB (t0.1 == 0) (
   pack_In_Int in0 h0 fun v h0u1 =>
   ref04uIn_Int x0 h0u1 fun v_1 h0u2 =>
   Q (v == v_1) h0u2
  ) (
   iteB (t0.1 == 1) (
    pack_In_Flag in0 h0 fun v_2 h0u3 =>
    ref04uIn_Flag x0 h0u3 fun v_3 h0u4 =>
    Q (v_2 == v_3) h0u4
   ) (
    iteB (t0.1 == 2) (
     pack_In_Bytes in0 h0 fun v_4 h0u5 =>
     strOf v_4 h0u5 fun v_5 =>
     ref04uIn_Bytes x0 h0u5 fun v_6 h0u6 =>
     (strIs v_4 h0u6 v_5) ∧
     strOf v_6 h0u6 fun v_7 =>
     Q (v_5.toList == v_7.toList) h0u6
    ) (
     iteB (t0.1 == 3) (
      pack_In_Ratio in0 h0 fun v_8 h0u7 =>
      ref04uIn_Ratio x0 h0u7 fun v_9 h0u8 =>
      ref03uSame (v_8.1, v_8.2.1, v_8.2.2, false, Sl.nil, Sl.nil) (v_9.1, v_9.2.1, v_9.2.2, false, Sl.nil, Sl.nil) h0u8 fun v_10 h0u9 =>
      Q v_10 h0u9
     ) (
      iteB (t0.1 == 4) (
       pack_In_Delta in0 h0 fun v_11 h0u10 =>
       ref04uIn_Delta x0 h0u10 fun v_12 h0u11 =>
       ref03uSame (v_11.1, v_11.2.1, v_11.2.2.1, v_11.2.2.2.1, v_11.2.2.2.2.1, v_11.2.2.2.2.2) (v_12.1, v_12.2.1, v_12.2.2.1, v_12.2.2.2.1, v_12.2.2.2.2.1, v_12.2.2.2.2.2) h0u11 fun v_13 h0u12 =>
       Q v_13 h0u12
      ) (
       iteB (t0.1 == 5) (
        pack_Take_int__pack_In_Int in0 8 in0 h0 fun v_14 h0u13 =>
        ref04uIn_Count x0 8 h0u13 fun v_15 h0u14 =>
        iteB (((v_14.len : Nat) : Int) != v_15) (
         Q false h0u14
        ) (
         loop (fun (s0 : Int) h0u15 (K0 : Int → Heap → Prop) =>
          iteB (decide (s0 < ((v_14.len : Nat) : Int))) (
           idxS v_14 s0 1 fun a =>
           Lift.load (Value.int .i64) a h0u15 fun v_16 =>
           ref04uIn_Int x0 h0u15 fun v_17 h0u16 =>
           iteB (v_16 != v_17) (
            Q false h0u16
           ) (
            K0 (IntKind.wrap .i64 (s0 + 1)) h0u16
           )
          ) (
           Q true h0u15
          )
         ) 0 h0u14
        )
       ) (
        pack_In_Count in0 t0.2.1 h0 fun v_18 h0u17 =>
        ref04uIn_Count x0 t0.2.1 h0u17 fun v_19 h0u18 =>
        Q (v_18 == v_19) h0u18
       )
      )
     )
    )
   )
  )

def pack_In_Wrong (in0 : (Option Addr)) (h : Heap) (Q : Bool → Heap → Prop) : Prop :=
  nilChk in0 fun a =>
  Lift.load Value.bool (a.add 1) h fun v =>
  Q v h

def pack_In_Done (in0 : (Option Addr)) (h : Heap) (Q : Int → Heap → Prop) : Prop :=
  seq (fun (K0 : Bool → Heap → Prop) =>
   nilChk in0 fun a =>
   Lift.load Value.bool (a.add 1) h fun v =>
   iteB v (
    K0 true h
   ) (
    nilChk in0 fun a_1 =>
    Lift.load Sl.toV (a_1.add 0) h fun v_1 =>
    K0 (decide (((v_1.len : Nat) : Int) > 0)) h
   )
  ) (fun t0 h0 =>
   iteB t0 (
    Q 3 h0
   ) (
    Q 0 h0
   )
  )

def ref04uIn_Done (in0 : (Option Addr)) (h : Heap) (Q : Int → Heap → Prop) : Prop :=
  seq (fun (K0 : Bool → Heap → Prop) =>
   nilChk in0 fun a =>
   Lift.load Value.bool (a.add 2) h fun v =>
   iteB v (
    K0 true h
   ) (
    nilChk in0 fun a_1 =>
    Lift.load (Value.int .i64) (a_1.add 1) h fun v_1 =>
    nilChk in0 fun a_2 =>
    Lift.load Sl.toV (a_2.add 0) h fun v_2 =>
    K0 (decide (v_1 < ((v_2.len : Nat) : Int))) h
   )
  ) (fun t0 h0 =>
   iteB t0 (
    Q 3 h0
   ) (
    Q 0 h0
   )
  )

def law04uPackTakes (b : Sl) (list : Sl) (h : Heap) (Q : Bool → Heap → Prop) : Prop :=
  law04uspeaks h fun v h0 =>
  iteB (!v) (
   Q false h0
  ) (
   seq (fun (K0 : Bool → Heap → Prop) =>
    iteB (decide (((b.len : Nat) : Int) > 2000)) (
     K0 true h0
    ) (
     law04ugreat list h0 fun v_1 h0u2 =>
     K0 v_1 h0u2
    )
   ) (fun t0 h0u1 =>
    iteB t0 (
     Q true h0u1
    ) (
     new [] h0u1 fun a h0u3 =>
     appendS 1 1 (⟨some a, 0, 0⟩ : Sl) b h0u3 fun v_3 h0u4 =>
     pack_From v_3 h0u4 fun v_4 h0u5 =>
     new [Sl.toV b, Value.int .i64 0, Value.bool false] h0u5 fun a_1 h0u6 =>
     loop (fun (s0 : Int) h0u7 (K0u1 : Int → Heap → Prop) =>
      iteB (decide (s0 < ((list.len : Nat) : Int))) (
       idxS list s0 10 fun a_2 =>
       loadS C_i64ui64usl_bool_sl_sl_bool_sl_sl_sl 10 a_2 h0u7 fun v_5 =>
       mem h0u7 fun h0u8 =>
       seq (fun (K0u2 : Bool → Heap → Prop) =>
        law04utake v_4 (some a_1) (v_5.1, v_5.2.1, v_5.2.2.1, v_5.2.2.2.1, v_5.2.2.2.2.1, v_5.2.2.2.2.2.1, v_5.2.2.2.2.2.2.1, v_5.2.2.2.2.2.2.2.1, v_5.2.2.2.2.2.2.2.2.1, v_5.2.2.2.2.2.2.2.2.2) h0u8 fun v_6 h0u10 =>
        iteB (!v_6) (
         K0u2 true h0u10
        ) (
         Lift.load Value.bool (a_1.add 2) h0u10 fun v_7 =>
         pack_In_Wrong v_4 h0u10 fun v_8 h0u11 =>
         (cell? h0u11 (a_1.add 2) = some (Value.bool v_7)) ∧
         iteB (!(v_8 == v_7)) (
          K0u2 true h0u11
         ) (
          pack_In_Done v_4 h0u11 fun v_9 h0u12 =>
          ref04uIn_Done (some a_1) h0u12 fun v_10 h0u13 =>
          K0u2 (v_9 != v_10) h0u13
         )
        )
       ) (fun t0u1 h0u9 =>
        iteB t0u1 (
         Q false h0u9
        ) (
         K0u1 (IntKind.wrap .i64 (s0 + 1)) h0u9
        )
       )
      ) (
       pack_In_Done v_4 h0u7 fun v_11 h0u14 =>
       ref04uIn_Done (some a_1) h0u14 fun v_12 h0u15 =>
       Q (v_11 == v_12) h0u15
      )
     ) 0 h0u6
    )
   )
  )

def ref04uInt (out : Sl) (n : Int) (h : Heap) (Q : Sl → Heap → Prop) : Prop :=
  Let (IntKind.wrap .u64 n : Int) fun m0 =>
  new [Value.int .u8 0, Value.int .u8 0, Value.int .u8 0, Value.int .u8 0, Value.int .u8 0, Value.int .u8 0, Value.int .u8 0, Value.int .u8 0] h fun b h0 =>
  storeS b [Value.int .u8 0, Value.int .u8 0, Value.int .u8 0, Value.int .u8 0, Value.int .u8 0, Value.int .u8 0, Value.int .u8 0, Value.int .u8 0] h0 fun h0u1 =>
  loop (fun (s0 : Int × Int) h0u2 (K0 : (Int × Int) → Heap → Prop) =>
   iteB (decide (s0.2 ≥ 0)) (
    ((0 : Int) ≤ (s0.2 : Int) ∧ (s0.2 : Int) < 8) ∧
    Lift.store (b.add (Int.toNat s0.2 * 1)) (Value.int .u8 (IntKind.wrap .u8 (Int.tmod s0.1 256))) h0u2 fun h0u3 =>
    Let (IntKind.wrap .u64 (Int.tdiv s0.1 256) : Int) fun m0u1 =>
    Let (IntKind.wrap .i64 (s0.2 - 1) : Int) fun i =>
    K0 (m0u1, i) h0u3
   ) (
    appendS 1 1 out (⟨some b, 8, 8⟩ : Sl) h0u2 fun v_1 h0u4 =>
    Q v_1 h0u4
   )
  ) (m0, 7) h0u1

def pack_Out_Flag (o : (Option Addr)) (is : Bool) (h : Heap) (Q : Unit → Heap → Prop) : Prop :=
  seq (fun (K0 : Int → Heap → Prop) =>
   iteB is (
    K0 1 h
   ) (
    K0 0 h
   )
  ) (fun t0 h0 =>
   pack_Out_number o t0 1 h0 fun v h0u1 =>
   Q () h0u1
  )

def ref04uFlag (out : Sl) (is : Bool) (h : Heap) (Q : Sl → Heap → Prop) : Prop :=
  iteB is (
   new [Value.int .u8 1] h fun a h0 =>
   appendS 1 1 out (⟨some a, 1, 1⟩ : Sl) h0 fun v_1 h0u1 =>
   Q v_1 h0u1
  ) (
   new [Value.int .u8 0] h fun a_1 h0u2 =>
   appendS 1 1 out (⟨some a_1, 1, 1⟩ : Sl) h0u2 fun v_3 h0u3 =>
   Q v_3 h0u3
  )

def pack_Out_Bytes (o : (Option Addr)) (b : Sl) (h : Heap) (Q : Unit → Heap → Prop) : Prop :=
  pack_Out_Int o ((b.len : Nat) : Int) h fun v h0 =>
  nilChk o fun a =>
  Lift.load Sl.toV (a.add 0) h0 fun v_1 =>
  appendS 1 1 v_1 b h0 fun v_2 h0u1 =>
  nilChk o fun a_1 =>
  Lift.store (a_1.add 0) (Sl.toV v_2) h0u1 fun h0u2 =>
  Q () h0u2

def ref04uBytes (out : Sl) (b : Sl) (h : Heap) (Q : Sl → Heap → Prop) : Prop :=
  ref04uInt out ((b.len : Nat) : Int) h fun v h0 =>
  appendS 1 1 v b h0 fun v_1 h0u1 =>
  Q v_1 h0u1

def pack_Out_limb (o : (Option Addr)) (n : Int) (h : Heap) (Q : Unit → Heap → Prop) : Prop :=
  pack_Out_number o (IntKind.wrap .u64 n) 4 h fun v h0 =>
  Q () h0

def pack_Put_uint32u_pack_Out_limb (o : (Option Addr)) (list : Sl) (put_b : (Option Addr)) (h : Heap) (Q : Unit → Heap → Prop) : Prop :=
  pack_Out_Int o ((list.len : Nat) : Int) h fun v h0 =>
  loop (fun (s0 : Int) h0u1 (K0 : Int → Heap → Prop) =>
   iteB (decide (s0 < ((list.len : Nat) : Int))) (
    idxS list s0 1 fun a =>
    Lift.load (Value.int .u32) a h0u1 fun v_1 =>
    pack_Out_limb put_b v_1 h0u1 fun v_2 h0u2 =>
    K0 (IntKind.wrap .i64 (s0 + 1)) h0u2
   ) (
    Q () h0u1
   )
  ) 0 h0

def pack_Out_Ratio (o : (Option Addr)) (x0 : Bool × Sl × Sl) (h : Heap) (Q : Unit → Heap → Prop) : Prop :=
  mem h fun h0 =>
  pack_Out_Flag o x0.1 h0 fun v h0u1 =>
  pack_Put_uint32u_pack_Out_limb o x0.2.1 o h0u1 fun v_1 h0u2 =>
  pack_Put_uint32u_pack_Out_limb o x0.2.2 o h0u2 fun v_2 h0u3 =>
  Q () h0u3

def ref04ulimbs (out : Sl) (l : Sl) (h : Heap) (Q : Sl → Heap → Prop) : Prop :=
  ref04uInt out ((l.len : Nat) : Int) h fun v h0 =>
  loop (fun (s0 : Sl × Int) h0u1 (K0 : (Sl × Int) → Heap → Prop) =>
   iteB (decide (s0.2 < ((l.len : Nat) : Int))) (
    idxS l s0.2 1 fun a =>
    Lift.load (Value.int .u32) a h0u1 fun v_1 =>
    idxS l s0.2 1 fun a_1 =>
    Lift.load (Value.int .u32) a_1 h0u1 fun v_2 =>
    idxS l s0.2 1 fun a_2 =>
    Lift.load (Value.int .u32) a_2 h0u1 fun v_3 =>
    idxS l s0.2 1 fun a_3 =>
    Lift.load (Value.int .u32) a_3 h0u1 fun v_4 =>
    new [Value.int .u8 (IntKind.wrap .u8 (IntKind.wrap .u32 (Int.tdiv v_1 16777216))), Value.int .u8 (IntKind.wrap .u8 (Int.tmod (IntKind.wrap .u32 (Int.tdiv v_2 65536)) 256)), Value.int .u8 (IntKind.wrap .u8 (Int.tmod (IntKind.wrap .u32 (Int.tdiv v_3 256)) 256)), Value.int .u8 (IntKind.wrap .u8 (Int.tmod v_4 256))] h0u1 fun a_4 h0u2 =>
    appendS 1 1 s0.1 (⟨some a_4, 4, 4⟩ : Sl) h0u2 fun v_6 h0u3 =>
    Let (IntKind.wrap .i64 (s0.2 + 1) : Int) fun i =>
    K0 (v_6, i) h0u3
   ) (
    Q s0.1 h0u1
   )
  ) (v, 0) h0

def ref04uRatio (out : Sl) (x0 : Bool × Sl × Sl) (h : Heap) (Q : Sl → Heap → Prop) : Prop :=
  mem h fun h0 =>
  ref04uFlag out x0.1 h0 fun v h0u1 =>
  ref04ulimbs v x0.2.1 h0u1 fun v_1 h0u2 =>
  ref04ulimbs v_1 x0.2.2 h0u2 fun v_2 h0u3 =>
  Q v_2 h0u3

def pack_Out_Delta (o : (Option Addr)) (x0 : Bool × Sl × Sl × Bool × Sl × Sl) (h : Heap) (Q : Unit → Heap → Prop) : Prop :=
  mem h fun h0 =>
  pack_Out_Ratio o (x0.1, x0.2.1, x0.2.2.1) h0 fun v h0u1 =>
  pack_Out_Ratio o (x0.2.2.2.1, x0.2.2.2.2.1, x0.2.2.2.2.2) h0u1 fun v_1 h0u2 =>
  Q () h0u2

def ref04uDelta (out : Sl) (x0 : Bool × Sl × Sl × Bool × Sl × Sl) (h : Heap) (Q : Sl → Heap → Prop) : Prop :=
  mem h fun h0 =>
  ref04uRatio out (x0.1, x0.2.1, x0.2.2.1) h0 fun v h0u1 =>
  ref04uRatio v (x0.2.2.2.1, x0.2.2.2.2.1, x0.2.2.2.2.2) h0u1 fun v_1 h0u2 =>
  Q v_1 h0u2

def pack_Put_int__pack_Out_Int (o : (Option Addr)) (list : Sl) (put_b : (Option Addr)) (h : Heap) (Q : Unit → Heap → Prop) : Prop :=
  pack_Out_Int o ((list.len : Nat) : Int) h fun v h0 =>
  loop (fun (s0 : Int) h0u1 (K0 : Int → Heap → Prop) =>
   iteB (decide (s0 < ((list.len : Nat) : Int))) (
    idxS list s0 1 fun a =>
    Lift.load (Value.int .i64) a h0u1 fun v_1 =>
    pack_Out_Int put_b v_1 h0u1 fun v_2 h0u2 =>
    K0 (IntKind.wrap .i64 (s0 + 1)) h0u2
   ) (
    Q () h0u1
   )
  ) 0 h0

def law04uput (o : (Option Addr)) (out : Sl) (t0 : Int × Int × Sl × Bool × Sl × Sl × Bool × Sl × Sl × Sl) (h : Heap) (Q : Sl → Heap → Prop) : Prop :=
  mem h fun h0 =>
  seq (fun (K0 : Sl → Heap → Prop) =>
   iteB (t0.1 == 0) (
    pack_Out_Int o t0.2.1 h0 fun v h0u2 =>
    ref04uInt out t0.2.1 h0u2 fun v_1 h0u3 =>
    Q v_1 h0u3
   ) (
    iteB (t0.1 == 1) (
     pack_Out_Flag o ((IntKind.wrap .i64 (((BitVec.ofInt (IntKind.bits .i64) t0.2.1 &&& BitVec.ofInt (IntKind.bits .i64) 1).toNat : Int))) == 1) h0 fun v_2 h0u4 =>
     ref04uFlag out ((IntKind.wrap .i64 (((BitVec.ofInt (IntKind.bits .i64) t0.2.1 &&& BitVec.ofInt (IntKind.bits .i64) 1).toNat : Int))) == 1) h0u4 fun v_3 h0u5 =>
     Q v_3 h0u5
    ) (
     iteB (t0.1 == 2) (
      pack_Out_Bytes o t0.2.2.1 h0 fun v_4 h0u6 =>
      ref04uBytes out t0.2.2.1 h0u6 fun v_5 h0u7 =>
      Q v_5 h0u7
     ) (
      iteB (t0.1 == 3) (
       pack_Out_Ratio o (t0.2.2.2.1, t0.2.2.2.2.1, t0.2.2.2.2.2.1) h0 fun v_6 h0u8 =>
       ref04uRatio out (t0.2.2.2.1, t0.2.2.2.2.1, t0.2.2.2.2.2.1) h0u8 fun v_7 h0u9 =>
       Q v_7 h0u9
      ) (
       iteB (t0.1 == 4) (
        pack_Out_Delta o (t0.2.2.2.1, t0.2.2.2.2.1, t0.2.2.2.2.2.1, t0.2.2.2.2.2.2.1, t0.2.2.2.2.2.2.2.1, t0.2.2.2.2.2.2.2.2.1) h0 fun v_8 h0u10 =>
        ref04uDelta out (t0.2.2.2.1, t0.2.2.2.2.1, t0.2.2.2.2.2.1, t0.2.2.2.2.2.2.1, t0.2.2.2.2.2.2.2.1, t0.2.2.2.2.2.2.2.2.1) h0u10 fun v_9 h0u11 =>
        Q v_9 h0u11
       ) (
        iteB (t0.1 == 5) (
         pack_Put_int__pack_Out_Int o t0.2.2.2.2.2.2.2.2.2 o h0 fun v_10 h0u12 =>
         ref04uInt out ((t0.2.2.2.2.2.2.2.2.2.len : Nat) : Int) h0u12 fun v_11 h0u13 =>
         loop (fun (s0 : Sl × Int) h0u14 (K0u1 : (Sl × Int) → Heap → Prop) =>
          iteB (decide (s0.2 < ((t0.2.2.2.2.2.2.2.2.2.len : Nat) : Int))) (
           idxS t0.2.2.2.2.2.2.2.2.2 s0.2 1 fun a =>
           Lift.load (Value.int .i64) a h0u14 fun v_12 =>
           ref04uInt s0.1 v_12 h0u14 fun v_13 h0u15 =>
           K0u1 (v_13, IntKind.wrap .i64 (s0.2 + 1)) h0u15
          ) (
           K0 s0.1 h0u14
          )
         ) (v_11, 0) h0u13
        ) (
         K0 out h0
        )
       )
      )
     )
    )
   )
  ) (fun t0u1 h0u1 =>
   Q t0u1 h0u1
  )

def law04uPackCut (list : Sl) (cut : Int) (h : Heap) (Q : Bool → Heap → Prop) : Prop :=
  law04uspeaks h fun v h0 =>
  iteB (!v) (
   Q false h0
  ) (
   law04ugreat list h0 fun v_1 h0u1 =>
   iteB v_1 (
    Q true h0u1
   ) (
    new [Sl.toV Sl.nil] h0u1 fun a h0u2 =>
    loop (fun (s0 : Int) h0u3 (K0 : Int → Heap → Prop) =>
     iteB (decide (s0 < ((list.len : Nat) : Int))) (
      idxS list s0 10 fun a_1 =>
      loadS C_i64ui64usl_bool_sl_sl_bool_sl_sl_sl 10 a_1 h0u3 fun v_2 =>
      mem h0u3 fun h0u4 =>
      law04uput (some a) Sl.nil (v_2.1, v_2.2.1, v_2.2.2.1, v_2.2.2.2.1, v_2.2.2.2.2.1, v_2.2.2.2.2.2.1, v_2.2.2.2.2.2.2.1, v_2.2.2.2.2.2.2.2.1, v_2.2.2.2.2.2.2.2.2.1, v_2.2.2.2.2.2.2.2.2.2) h0u4 fun v_3 h0u5 =>
      K0 (IntKind.wrap .i64 (s0 + 1)) h0u5
     ) (
      pack_Out_Done (some a) h0u3 fun v_4 h0u6 =>
      iteB (((v_4.len : Nat) : Int) == 0) (
       Q true h0u6
      ) (
       (((v_4.len : Nat) : Int) ≠ 0) ∧
       sliceOf v_4 none (some (Int.tmod (IntKind.wrap .i64 (((BitVec.ofInt (IntKind.bits .i64) cut &&& BitVec.ofInt (IntKind.bits .i64) 65535).toNat : Int))) ((v_4.len : Nat) : Int))) none 1 fun v_5 =>
       pack_From v_5 h0u6 fun v_6 h0u7 =>
       new [Sl.toV v_4, Value.int .i64 0, Value.bool false] h0u7 fun a_2 h0u8 =>
       loop (fun (s0u1 : Int) h0u9 (K0u1 : Int → Heap → Prop) =>
        iteB (decide (s0u1 < ((list.len : Nat) : Int))) (
         seq (fun (K0u2 : Unit → Heap → Prop) =>
          idxS list s0u1 10 fun a_3 =>
          loadS C_i64ui64usl_bool_sl_sl_bool_sl_sl_sl 10 a_3 h0u9 fun v_7 =>
          mem h0u9 fun h0u11 =>
          seq (fun (K0u3 : Bool → Heap → Prop) =>
           iteB (decide (v_7.1 ≥ 0)) (
            K0u3 (decide (v_7.1 ≤ 5)) h0u11
           ) (
            K0u3 false h0u11
           )
          ) (fun t0u1 h0u12 =>
           iteB t0u1 (
            law04utake v_6 (some a_2) (v_7.1, v_7.2.1, v_7.2.2.1, v_7.2.2.2.1, v_7.2.2.2.2.1, v_7.2.2.2.2.2.1, v_7.2.2.2.2.2.2.1, v_7.2.2.2.2.2.2.2.1, v_7.2.2.2.2.2.2.2.2.1, v_7.2.2.2.2.2.2.2.2.2) h0u12 fun v_8 h0u13 =>
            K0u2 () h0u13
           ) (
            K0u2 () h0u12
           )
          )
         ) (fun t0 h0u10 =>
          K0u1 (IntKind.wrap .i64 (s0u1 + 1)) h0u10
         )
        ) (
         pack_In_Done v_6 h0u9 fun v_9 h0u14 =>
         Q (v_9 == 3) h0u14
        )
       ) 0 h0u8
      )
     )
    ) 0 h0u2
   )
  )

def law04uPackPuts (list : Sl) (h : Heap) (Q : Bool → Heap → Prop) : Prop :=
  law04uspeaks h fun v h0 =>
  iteB (!v) (
   Q false h0
  ) (
   law04ugreat list h0 fun v_1 h0u1 =>
   iteB v_1 (
    Q true h0u1
   ) (
    new [Sl.toV Sl.nil] h0u1 fun a h0u2 =>
    new [] h0u2 fun a_1 h0u3 =>
    Let ((⟨some a_1, 0, 0⟩ : Sl) : Sl) fun out =>
    loop (fun (s0 : Sl × Int) h0u4 (K0 : (Sl × Int) → Heap → Prop) =>
     iteB (decide (s0.2 < ((list.len : Nat) : Int))) (
      idxS list s0.2 10 fun a_2 =>
      loadS C_i64ui64usl_bool_sl_sl_bool_sl_sl_sl 10 a_2 h0u4 fun v_3 =>
      mem h0u4 fun h0u5 =>
      law04uput (some a) s0.1 (v_3.1, v_3.2.1, v_3.2.2.1, v_3.2.2.2.1, v_3.2.2.2.2.1, v_3.2.2.2.2.2.1, v_3.2.2.2.2.2.2.1, v_3.2.2.2.2.2.2.2.1, v_3.2.2.2.2.2.2.2.2.1, v_3.2.2.2.2.2.2.2.2.2) h0u5 fun v_4 h0u6 =>
      K0 (v_4, IntKind.wrap .i64 (s0.2 + 1)) h0u6
     ) (
      pack_Out_Done (some a) h0u4 fun v_5 h0u7 =>
      strOf v_5 h0u7 fun v_6 =>
      strOf s0.1 h0u7 fun v_7 =>
      iteB (!(v_6.toList == v_7.toList)) (
       Q false h0u7
      ) (
       pack_From v_5 h0u7 fun v_8 h0u8 =>
       new [Sl.toV s0.1, Value.int .i64 0, Value.bool false] h0u8 fun a_3 h0u9 =>
       loop (fun (s0u1 : Int) h0u10 (K0u1 : Int → Heap → Prop) =>
        iteB (decide (s0u1 < ((list.len : Nat) : Int))) (
         seq (fun (K0u2 : Unit → Heap → Prop) =>
          idxS list s0u1 10 fun a_4 =>
          loadS C_i64ui64usl_bool_sl_sl_bool_sl_sl_sl 10 a_4 h0u10 fun v_9 =>
          mem h0u10 fun h0u12 =>
          seq (fun (K0u3 : Bool → Heap → Prop) =>
           iteB (decide (v_9.1 < 0)) (
            K0u3 true h0u12
           ) (
            K0u3 (decide (v_9.1 > 5)) h0u12
           )
          ) (fun t0u1 h0u13 =>
           iteB t0u1 (
            K0u2 () h0u13
           ) (
            seq (fun (K0u4 : Bool → Heap → Prop) =>
             law04utake v_8 (some a_3) (v_9.1, v_9.2.1, v_9.2.2.1, v_9.2.2.2.1, v_9.2.2.2.2.1, v_9.2.2.2.2.2.1, v_9.2.2.2.2.2.2.1, v_9.2.2.2.2.2.2.2.1, v_9.2.2.2.2.2.2.2.2.1, v_9.2.2.2.2.2.2.2.2.2) h0u13 fun v_10 h0u15 =>
             iteB (!v_10) (
              K0u4 true h0u15
             ) (
              pack_In_Wrong v_8 h0u15 fun v_11 h0u16 =>
              K0u4 v_11 h0u16
             )
            ) (fun t0u2 h0u14 =>
             iteB t0u2 (
              Q false h0u14
             ) (
              K0u2 () h0u14
             )
            )
           )
          )
         ) (fun t0 h0u11 =>
          K0u1 (IntKind.wrap .i64 (s0u1 + 1)) h0u11
         )
        ) (
         seq (fun (K0u5 : Bool → Heap → Prop) =>
          pack_In_Done v_8 h0u10 fun v_12 h0u18 =>
          iteB (v_12 == 0) (
           ref04uIn_Done (some a_3) h0u18 fun v_13 h0u19 =>
           K0u5 (v_13 == 0) h0u19
          ) (
           K0u5 false h0u18
          )
         ) (fun t0u3 h0u17 =>
          Q t0u3 h0u17
         )
        )
       ) 0 h0u9
      )
     )
    ) (out, 0) h0u3
   )
  )
end Go.Sh

/- The functions, as they are seen: printed by lift.py. -/
import Derived.Test.YtdcdidecehbplaaLiftDraw
set_option linter.unusedVariables false
set_option linter.unusedSimpArgs false
namespace Go.Sh
open Go Go.Lift


def nat_New (limbs : Int) (h : Heap) (Q : ((Option Addr)) → Heap → Prop) : Prop :=
  new [Value.int .i64 (if 1 > limbs then 1 else limbs), Value.bool false] h fun a h0 =>
  Q (some a) h0

def nat_trim (x0 : Sl) (h : Heap) (Q : Sl → Heap → Prop) : Prop :=
  loop (fun (s0 : Sl) h0 (K0 : Sl → Heap → Prop) =>
   seq (fun (K0u1 : Bool → Heap → Prop) =>
    iteB (decide (((s0.len : Nat) : Int) > 0)) (
     idxS s0 (IntKind.wrap .i64 (((s0.len : Nat) : Int) - 1)) 1 fun a =>
     Lift.load (Value.int .u32) a h0 fun v =>
     K0u1 (v == 0) h0
    ) (
     K0u1 false h0
    )
   ) (fun t0 h0u1 =>
    iteB t0 (
     sliceOf s0 none (some (IntKind.wrap .i64 (((s0.len : Nat) : Int) - 1))) none 1 fun v_1 =>
     K0 v_1 h0u1
    ) (
     Q s0 h0u1
    )
   )
  ) x0 h

def nat_times (x0 : Sl) (y : Sl) (h : Heap) (Q : Sl → Heap → Prop) : Prop :=
  Let (IntKind.wrap .i64 (((x0.len : Nat) : Int) + ((y.len : Nat) : Int)) : Int) fun t15 =>
  mkS [Value.int .u32 0] 4 t15 t15 h fun v h0 =>
  loop (fun (s0 : Int) h0u1 (K0 : Int → Heap → Prop) =>
   iteB (decide (s0 < ((x0.len : Nat) : Int))) (
    idxS x0 s0 1 fun a =>
    Lift.load (Value.int .u32) a h0u1 fun v_1 =>
    loop (fun (s0u1 : Int × Int) h0u2 (K0u1 : (Int × Int) → Heap → Prop) =>
     iteB (decide (s0u1.2 < ((y.len : Nat) : Int))) (
      idxS y s0u1.2 1 fun a_1 =>
      Lift.load (Value.int .u32) a_1 h0u2 fun v_2 =>
      idxS v (IntKind.wrap .i64 (s0 + s0u1.2)) 1 fun a_2 =>
      Lift.load (Value.int .u32) a_2 h0u2 fun v_3 =>
      Let (IntKind.wrap .u64 (s0u1.1 + (IntKind.wrap .u64 ((IntKind.wrap .u64 ((IntKind.wrap .u64 v_1) * (IntKind.wrap .u64 v_2))) + (IntKind.wrap .u64 v_3)))) : Int) fun carry =>
      idxS v (IntKind.wrap .i64 (s0 + s0u1.2)) 1 fun a_3 =>
      Lift.store a_3 (Value.int .u32 (IntKind.wrap .u32 carry)) h0u2 fun h0u3 =>
      Let (Int.fdiv carry (2 ^ (min (Int.toNat 32) (IntKind.bits .u64))) : Int) fun carry_1 =>
      K0u1 (carry_1, IntKind.wrap .i64 (s0u1.2 + 1)) h0u3
     ) (
      idxS v (IntKind.wrap .i64 (s0 + ((y.len : Nat) : Int))) 1 fun a_4 =>
      Lift.store a_4 (Value.int .u32 (IntKind.wrap .u32 s0u1.1)) h0u2 fun h0u4 =>
      K0 (IntKind.wrap .i64 (s0 + 1)) h0u4
     )
    ) (0, 0) h0u1
   ) (
    Q v h0u1
   )
  ) 0 h0

def slices_Clone_api_Nat_uint32 (s0 : Sl) (h : Heap) (Q : Sl → Heap → Prop) : Prop :=
  iteB s0.a.isNone (
   Q Sl.nil h
  ) (
   new [] h fun a h0 =>
   appendS 1 4 (⟨some a, 0, 0⟩ : Sl) s0 h0 fun v_1 h0u1 =>
   Q v_1 h0u1
  )

def nat_Bench_fit (b : (Option Addr)) (x0 : Sl) (h : Heap) (Q : Sl → Heap → Prop) : Prop :=
  nat_trim x0 h fun v h0 =>
  seq (fun (K0 : Unit → Heap → Prop) =>
   nilChk b fun a =>
   Lift.load Value.bool (a.add 1) h0 fun v_1 =>
   iteB v_1 (
    nilChk b fun a_1 =>
    Lift.store (a_1.add 1) (Value.bool true) h0 fun h0u2 =>
    K0 () h0u2
   ) (
    nilChk b fun a_2 =>
    Lift.load (Value.int .i64) (a_2.add 0) h0 fun v_2 =>
    nilChk b fun a_3 =>
    Lift.store (a_3.add 1) (Value.bool (decide (((v.len : Nat) : Int) > v_2))) h0 fun h0u3 =>
    K0 () h0u3
   )
  ) (fun t0 h0u1 =>
   nilChk b fun a_4 =>
   Lift.load Value.bool (a_4.add 1) h0u1 fun v_3 =>
   iteB v_3 (
    Q Sl.nil h0u1
   ) (
    slices_Clone_api_Nat_uint32 v h0u1 fun v_4 h0u4 =>
    Q v_4 h0u4
   )
  )

def nat_Bench_Mul (b : (Option Addr)) (x0 : Sl) (y : Sl) (h : Heap) (Q : Sl → Heap → Prop) : Prop :=
  nat_trim x0 h fun v h0 =>
  nat_trim y h0 fun v_1 h0u1 =>
  nat_times v v_1 h0u1 fun v_2 h0u2 =>
  nat_Bench_fit b v_2 h0u2 fun v_3 h0u3 =>
  Q v_3 h0u3

def nat_Bench_Over (b : (Option Addr)) (h : Heap) (Q : Bool → Heap → Prop) : Prop :=
  nilChk b fun a =>
  Lift.load Value.bool (a.add 1) h fun v =>
  Q v h

def nat_Of (n : Int) (h : Heap) (Q : Sl → Heap → Prop) : Prop :=
  new [Value.int .u32 (IntKind.wrap .u32 n), Value.int .u32 (IntKind.wrap .u32 (Int.fdiv n (2 ^ (min (Int.toNat 32) (IntKind.bits .u64)))))] h fun a h0 =>
  nat_trim (⟨some a, 2, 2⟩ : Sl) h0 fun v_1 h0u1 =>
  Q v_1 h0u1

def nat_small (x0 : Sl) (h : Heap) (Q : (Int × Bool) → Heap → Prop) : Prop :=
  nat_trim x0 h fun v h0 =>
  Let (IntKind.wrap .i64 (((v.len : Nat) : Int) - 1) : Int) fun i =>
  loop (fun (s0 : Int × Int) h0u1 (K0 : (Int × Int) → Heap → Prop) =>
   iteB (decide (s0.2 ≥ 0)) (
    idxS v s0.2 1 fun a =>
    Lift.load (Value.int .u32) a h0u1 fun v_1 =>
    Let (IntKind.wrap .u64 (((BitVec.ofInt (IntKind.bits .u64) (IntKind.wrap .u64 (s0.1 * 2 ^ (min (Int.toNat 32) (IntKind.bits .u64)))) ||| BitVec.ofInt (IntKind.bits .u64) (IntKind.wrap .u64 v_1)).toNat : Int)) : Int) fun n =>
    Let (IntKind.wrap .i64 (s0.2 - 1) : Int) fun i_1 =>
    K0 (n, i_1) h0u1
   ) (
    Let (decide (((v.len : Nat) : Int) ≤ 2) : Bool) fun ok =>
    Q (s0.1, ok) h0u1
   )
  ) (0, i) h0

def nat_plus (x0 : Sl) (y : Sl) (h : Heap) (Q : Sl → Heap → Prop) : Prop :=
  loop (fun (s0 : Sl × Int × Int) h0 (K0 : (Sl × Int × Int) → Heap → Prop) =>
   iteB (decide (s0.2.2 < (if ((y.len : Nat) : Int) > ((x0.len : Nat) : Int) then ((y.len : Nat) : Int) else ((x0.len : Nat) : Int)))) (
    loop (fun (s0u1 : Int × Int) h0u1 (K0u1 : (Int × Int) → Heap → Prop) =>
     iteB (decide (s0u1.2 < 2)) (
      seq (fun (K0u2 : Int → Heap → Prop) =>
       idxV Sl.toV [Sl.toV x0, Sl.toV y] 2 s0u1.2 1 fun v =>
       iteB (decide (s0.2.2 < ((v.len : Nat) : Int))) (
        idxS v s0.2.2 1 fun a =>
        Lift.load (Value.int .u32) a h0u1 fun v_1 =>
        Let (IntKind.wrap .u64 (s0u1.1 + (IntKind.wrap .u64 v_1)) : Int) fun carry =>
        K0u2 carry h0u1
       ) (
        K0u2 s0u1.1 h0u1
       )
      ) (fun t0 h0u2 =>
       K0u1 (t0, IntKind.wrap .i64 (s0u1.2 + 1)) h0u2
      )
     ) (
      new [Value.int .u32 (IntKind.wrap .u32 s0u1.1)] h0u1 fun a_1 h0u3 =>
      appendS 1 4 s0.1 (⟨some a_1, 1, 1⟩ : Sl) h0u3 fun v_3 h0u4 =>
      Let (Int.fdiv s0u1.1 (2 ^ (min (Int.toNat 32) (IntKind.bits .u64))) : Int) fun carry_1 =>
      K0 (v_3, carry_1, IntKind.wrap .i64 (s0.2.2 + 1)) h0u4
     )
    ) (s0.2.1, 0) h0
   ) (
    new [Value.int .u32 (IntKind.wrap .u32 s0.2.1)] h0 fun a_2 h0u5 =>
    appendS 1 4 s0.1 (⟨some a_2, 1, 1⟩ : Sl) h0u5 fun v_5 h0u6 =>
    Q v_5 h0u6
   )
  ) (Sl.nil, 0, 0) h

def nat_bit (x0 : Sl) (at0 : Int) (h : Heap) (Q : Int → Heap → Prop) : Prop :=
  idxS x0 (IntKind.wrap .i64 (Int.tdiv at0 32)) 1 fun a =>
  Lift.load (Value.int .u32) a h fun v =>
  (0 ≤ (Int.tmod at0 32)) ∧
  Q (IntKind.wrap .u32 (((BitVec.ofInt (IntKind.bits .u32) (Int.fdiv v (2 ^ (min (Int.toNat (Int.tmod at0 32)) (IntKind.bits .u32)))) &&& BitVec.ofInt (IntKind.bits .u32) 1).toNat : Int))) h

def nat_sign (n : Int) (h : Heap) (Q : Int → Heap → Prop) : Prop :=
  Q (if (-1) > (if 1 < n then 1 else n) then (-1) else (if 1 < n then 1 else n)) h

def nat_Cmp (x0 : Sl) (y : Sl) (h : Heap) (Q : Int → Heap → Prop) : Prop :=
  nat_trim x0 h fun v h0 =>
  nat_trim y h0 fun v_1 h0u1 =>
  iteB (((v.len : Nat) : Int) != ((v_1.len : Nat) : Int)) (
   nat_sign (IntKind.wrap .i64 (((v.len : Nat) : Int) - ((v_1.len : Nat) : Int))) h0u1 fun v_2 h0u2 =>
   Q v_2 h0u2
  ) (
   Let (IntKind.wrap .i64 (((v.len : Nat) : Int) - 1) : Int) fun i =>
   loop (fun (s0 : Int) h0u3 (K0 : Int → Heap → Prop) =>
    iteB (decide (s0 ≥ 0)) (
     idxS v s0 1 fun a =>
     Lift.load (Value.int .u32) a h0u3 fun v_3 =>
     idxS v_1 s0 1 fun a_1 =>
     Lift.load (Value.int .u32) a_1 h0u3 fun v_4 =>
     iteB (v_3 != v_4) (
      idxS v s0 1 fun a_2 =>
      Lift.load (Value.int .u32) a_2 h0u3 fun v_5 =>
      idxS v_1 s0 1 fun a_3 =>
      Lift.load (Value.int .u32) a_3 h0u3 fun v_6 =>
      nat_sign (IntKind.wrap .i64 ((IntKind.wrap .i64 v_5) - (IntKind.wrap .i64 v_6))) h0u3 fun v_7 h0u4 =>
      Q v_7 h0u4
     ) (
      Let (IntKind.wrap .i64 (s0 - 1) : Int) fun i_1 =>
      K0 i_1 h0u3
     )
    ) (
     Q 0 h0u3
    )
   ) i h0u1
  )

def nat_minus (x0 : Sl) (y : Sl) (h : Heap) (Q : Sl → Heap → Prop) : Prop :=
  loop (fun (s0 : Sl × Int × Int) h0 (K0 : (Sl × Int × Int) → Heap → Prop) =>
   iteB (decide (s0.2.2 < ((x0.len : Nat) : Int))) (
    idxS x0 s0.2.2 1 fun a =>
    Lift.load (Value.int .u32) a h0 fun v =>
    Let (IntKind.wrap .u64 ((IntKind.wrap .u64 v) - s0.2.1) : Int) fun d =>
    seq (fun (K0u1 : Int → Heap → Prop) =>
     iteB (decide (s0.2.2 < ((y.len : Nat) : Int))) (
      idxS y s0.2.2 1 fun a_1 =>
      Lift.load (Value.int .u32) a_1 h0 fun v_1 =>
      Let (IntKind.wrap .u64 (d - (IntKind.wrap .u64 v_1)) : Int) fun d_1 =>
      K0u1 d_1 h0
     ) (
      K0u1 d h0
     )
    ) (fun t0 h0u1 =>
     new [Value.int .u32 (IntKind.wrap .u32 t0)] h0u1 fun a_2 h0u2 =>
     appendS 1 4 s0.1 (⟨some a_2, 1, 1⟩ : Sl) h0u2 fun v_3 h0u3 =>
     Let (Int.fdiv t0 (2 ^ (min (Int.toNat 63) (IntKind.bits .u64))) : Int) fun borrow =>
     K0 (v_3, borrow, IntKind.wrap .i64 (s0.2.2 + 1)) h0u3
    )
   ) (
    nat_trim s0.1 h0 fun v_4 h0u4 =>
    Q v_4 h0u4
   )
  ) (Sl.nil, 0, 0) h

def nat_divide (x0 : Sl) (y : Sl) (h : Heap) (Q : (Sl × Sl) → Heap → Prop) : Prop :=
  nat_small x0 h fun v h0 =>
  nat_small y h0 fun v_1 h0u1 =>
  seq (fun (K0 : Bool → Heap → Prop) =>
   iteB v.2 (
    K0 v_1.2 h0u1
   ) (
    K0 false h0u1
   )
  ) (fun t0 h0u2 =>
   iteB t0 (
    (v_1.1 ≠ 0) ∧
    (v_1.1 ≠ 0) ∧
    nat_Of (IntKind.wrap .u64 (Int.tdiv v.1 v_1.1)) h0u2 fun v_2 h0u3 =>
    nat_Of (Int.tmod v.1 v_1.1) h0u3 fun v_3 h0u4 =>
    Q (v_2, v_3) h0u4
   ) (
    nat_trim x0 h0u2 fun v_4 h0u5 =>
    nat_trim y h0u5 fun v_5 h0u6 =>
    Let (((v_4.len : Nat) : Int) : Int) fun t38 =>
    mkS [Value.int .u32 0] 4 t38 t38 h0u6 fun v_6 h0u7 =>
    Let (IntKind.wrap .i64 ((IntKind.wrap .i64 (((v_4.len : Nat) : Int) * 32)) - 1) : Int) fun at0 =>
    loop (fun (s0 : Sl × Int) h0u8 (K0u1 : (Sl × Int) → Heap → Prop) =>
     iteB (decide (s0.2 ≥ 0)) (
      seq (fun (K0u2 : Sl → Heap → Prop) =>
       nat_plus s0.1 s0.1 h0u8 fun v_7 h0u10 =>
       idxS v_7 0 1 fun a =>
       Lift.load (Value.int .u32) a h0u10 fun v_8 =>
       nat_bit v_4 s0.2 h0u10 fun v_9 h0u11 =>
       (cell? h0u11 a = some (Value.int .u32 v_8)) ∧
       idxS v_7 0 1 fun a_1 =>
       Lift.store a_1 (Value.int .u32 (IntKind.wrap .u32 (((BitVec.ofInt (IntKind.bits .u32) v_8 ||| BitVec.ofInt (IntKind.bits .u32) v_9).toNat : Int)))) h0u11 fun h0u12 =>
       nat_trim v_7 h0u12 fun v_10 h0u13 =>
       nat_Cmp v_10 v_5 h0u13 fun v_11 h0u14 =>
       iteB (decide (v_11 ≥ 0)) (
        nat_minus v_10 v_5 h0u14 fun v_12 h0u15 =>
        idxS v_6 (IntKind.wrap .i64 (Int.tdiv s0.2 32)) 1 fun a_2 =>
        Lift.load (Value.int .u32) a_2 h0u15 fun v_13 =>
        (0 ≤ (Int.tmod s0.2 32)) ∧
        idxS v_6 (IntKind.wrap .i64 (Int.tdiv s0.2 32)) 1 fun a_3 =>
        Lift.store a_3 (Value.int .u32 (IntKind.wrap .u32 (((BitVec.ofInt (IntKind.bits .u32) v_13 ||| BitVec.ofInt (IntKind.bits .u32) (IntKind.wrap .u32 (1 * 2 ^ (min (Int.toNat (Int.tmod s0.2 32)) (IntKind.bits .u32))))).toNat : Int)))) h0u15 fun h0u16 =>
        K0u2 v_12 h0u16
       ) (
        K0u2 v_10 h0u14
       )
      ) (fun t0u1 h0u9 =>
       Let (IntKind.wrap .i64 (s0.2 - 1) : Int) fun at0u1 =>
       K0u1 (t0u1, at0u1) h0u9
      )
     ) (
      nat_trim v_6 h0u8 fun v_14 h0u17 =>
      Q (v_14, s0.1) h0u17
     )
    ) (Sl.nil, at0) h0u7
   )
  )

def slices_Reverse_byte_byte (s0 : Sl) (h : Heap) (Q : Unit → Heap → Prop) : Prop :=
  Let (IntKind.wrap .i64 (((s0.len : Nat) : Int) - 1) : Int) fun j =>
  loop (fun (s0u1 : Int × Int) h0 (K0 : (Int × Int) → Heap → Prop) =>
   iteB (decide (s0u1.1 < s0u1.2)) (
    idxS s0 s0u1.2 1 fun a =>
    Lift.load (Value.int .u8) a h0 fun v =>
    idxS s0 s0u1.1 1 fun a_1 =>
    Lift.load (Value.int .u8) a_1 h0 fun v_1 =>
    idxS s0 s0u1.1 1 fun a_2 =>
    Lift.store a_2 (Value.int .u8 v) h0 fun h0u1 =>
    idxS s0 s0u1.2 1 fun a_3 =>
    Lift.store a_3 (Value.int .u8 v_1) h0u1 fun h0u2 =>
    Let (IntKind.wrap .i64 (s0u1.1 + 1) : Int) fun i =>
    Let (IntKind.wrap .i64 (s0u1.2 - 1) : Int) fun j_1 =>
    K0 (i, j_1) h0u2
   ) (
    Q () h0
   )
  ) (0, j) h

def nat_Text (x0 : Sl) (h : Heap) (Q : ByteArray → Heap → Prop) : Prop :=
  nat_trim x0 h fun v h0 =>
  loop (fun (s0 : Sl × Sl) h0u1 (K0 : (Sl × Sl) → Heap → Prop) =>
   iteB (decide (((s0.1.len : Nat) : Int) > 0)) (
    new [Value.int .u32 1000000000] h0u1 fun a h0u2 =>
    nat_divide s0.1 (⟨some a, 1, 1⟩ : Sl) h0u2 fun v_2 h0u3 =>
    nat_small v_2.2 h0u3 fun v_3 h0u4 =>
    loop (fun (s0u1 : Sl × Int × Int) h0u5 (K0u1 : (Sl × Int × Int) → Heap → Prop) =>
     seq (fun (K0u2 : Bool → Heap → Prop) =>
      iteB (decide (s0u1.2.2 < 9)) (
       iteB (decide (((v_2.1.len : Nat) : Int) > 0)) (
        K0u2 true h0u5
       ) (
        K0u2 (decide (s0u1.2.1 > 0)) h0u5
       )
      ) (
       K0u2 false h0u5
      )
     ) (fun t0 h0u6 =>
      iteB t0 (
       new [Value.int .u8 (IntKind.wrap .u8 (IntKind.wrap .u64 (48 + (Int.tmod s0u1.2.1 10))))] h0u6 fun a_1 h0u7 =>
       appendS 1 1 s0u1.1 (⟨some a_1, 1, 1⟩ : Sl) h0u7 fun v_5 h0u8 =>
       Let (IntKind.wrap .u64 (Int.tdiv s0u1.2.1 10) : Int) fun part =>
       Let (IntKind.wrap .i64 (s0u1.2.2 + 1) : Int) fun i =>
       K0u1 (v_5, part, i) h0u8
      ) (
       K0 (v_2.1, s0u1.1) h0u6
      )
     )
    ) (s0.2, v_3.1, 0) h0u4
   ) (
    iteB (((s0.2.len : Nat) : Int) == 0) (
     Q (ByteArray.mk #[48]) h0u1
    ) (
     slices_Reverse_byte_byte s0.2 h0u1 fun v_6 h0u9 =>
     strOf s0.2 h0u9 fun v_7 =>
     Q v_7 h0u9
    )
   )
  ) (v, Sl.nil) h0

def law01uspeaks (h : Heap) (Q : Bool → Heap → Prop) : Prop :=
  nat_New 2 h fun v h0 =>
  new [Value.int .u32 0, Value.int .u32 1] h0 fun a h0u1 =>
  new [Value.int .u32 0, Value.int .u32 1] h0u1 fun a_1 h0u2 =>
  nat_Bench_Mul v (⟨some a, 2, 2⟩ : Sl) (⟨some a_1, 2, 2⟩ : Sl) h0u2 fun v_3 h0u3 =>
  seq (fun (K0 : Bool → Heap → Prop) =>
   nat_Bench_Over v h0u3 fun v_4 h0u5 =>
   iteB v_4 (
    iteB (((v_3.len : Nat) : Int) == 0) (
     nat_Of 4294967296 h0u5 fun v_5 h0u6 =>
     nat_Text v_5 h0u6 fun v_6 h0u7 =>
     K0 (v_6.toList == (ByteArray.mk #[52, 50, 57, 52, 57, 54, 55, 50, 57, 54]).toList) h0u7
    ) (
     K0 false h0u5
    )
   ) (
    K0 false h0u5
   )
  ) (fun t0 h0u4 =>
   Q t0 h0u4
  )

def law01ugreat (l : Sl) (h : Heap) (Q : Bool → Heap → Prop) : Prop :=
  loop (fun (s0 : Int) h0 (K0 : Int → Heap → Prop) =>
   iteB (decide (s0 < ((l.len : Nat) : Int))) (
    idxS l s0 1 fun a =>
    Lift.load Sl.toV a h0 fun v =>
    iteB (decide (((v.len : Nat) : Int) > 12)) (
     Q true h0
    ) (
     K0 (IntKind.wrap .i64 (s0 + 1)) h0
    )
   ) (
    Q false h0
   )
  ) 0 h

def nat_Bench_Add (b : (Option Addr)) (x0 : Sl) (y : Sl) (h : Heap) (Q : Sl → Heap → Prop) : Prop :=
  nat_plus x0 y h fun v h0 =>
  nat_Bench_fit b v h0 fun v_1 h0u1 =>
  Q v_1 h0u1

def nat_Bench_Parse (b : (Option Addr)) (s0 : ByteArray) (h : Heap) (Q : (Sl × Bool) → Heap → Prop) : Prop :=
  seq (fun (K0 : Bool → Heap → Prop) =>
   iteB (((s0.size : Nat) : Int) == 0) (
    K0 true h
   ) (
    K0 (decide (((s0.size : Nat) : Int) > 10000)) h
   )
  ) (fun t0 h0 =>
   iteB t0 (
    Q (Sl.nil, false) h0
   ) (
    loop (fun (s0u1 : Int) h0u1 (K0u1 : Int → Heap → Prop) =>
     iteB (decide (s0u1 < ((s0.size : Nat) : Int))) (
      seq (fun (K0u2 : Bool → Heap → Prop) =>
       idxStr s0 s0u1 fun v =>
       iteB (decide (v < 48)) (
        K0u2 true h0u1
       ) (
        idxStr s0 s0u1 fun v_1 =>
        K0u2 (decide (v_1 > 57)) h0u1
       )
      ) (fun t0u1 h0u2 =>
       iteB t0u1 (
        Q (Sl.nil, false) h0u2
       ) (
        K0u1 (IntKind.wrap .i64 (s0u1 + 1)) h0u2
       )
      )
     ) (
      loop (fun (s0u2 : Sl × Int) h0u3 (K0u3 : (Sl × Int) → Heap → Prop) =>
       iteB (decide (s0u2.2 < ((s0.size : Nat) : Int))) (
        seq (fun (K0u4 : Sl → Heap → Prop) =>
         idxStr s0 s0u2.2 fun v_2 =>
         (
          new [Value.int .u32 10] h0u3 fun a h0u5 =>
          (
           nat_Bench_Mul b s0u2.1 (⟨some a, 1, 1⟩ : Sl) h0u5 fun v_4 h0u6 =>
           new [Value.int .u32 (IntKind.wrap .u32 (IntKind.wrap .u8 (v_2 - 48)))] h0u6 fun a_1 h0u7 =>
           nat_Bench_Add b v_4 (⟨some a_1, 1, 1⟩ : Sl) h0u7 fun v_6 h0u8 =>
           K0u4 v_6 h0u8
          ) ∧ (
           new [Value.int .u32 (IntKind.wrap .u32 (IntKind.wrap .u8 (v_2 - 48)))] h0u5 fun a_2 h0u9 =>
           nat_Bench_Mul b s0u2.1 (⟨some a, 1, 1⟩ : Sl) h0u9 fun v_8 h0u10 =>
           nat_Bench_Add b v_8 (⟨some a_2, 1, 1⟩ : Sl) h0u10 fun v_9 h0u11 =>
           K0u4 v_9 h0u11
          )
         ) ∧ (
          new [Value.int .u32 (IntKind.wrap .u32 (IntKind.wrap .u8 (v_2 - 48)))] h0u3 fun a_3 h0u12 =>
          new [Value.int .u32 10] h0u12 fun a_4 h0u13 =>
          nat_Bench_Mul b s0u2.1 (⟨some a_4, 1, 1⟩ : Sl) h0u13 fun v_12 h0u14 =>
          nat_Bench_Add b v_12 (⟨some a_3, 1, 1⟩ : Sl) h0u14 fun v_13 h0u15 =>
          K0u4 v_13 h0u15
         )
        ) (fun t0u2 h0u4 =>
         nilChk b fun a_5 =>
         Lift.load Value.bool (a_5.add 1) h0u4 fun v_14 =>
         iteB v_14 (
          Q (Sl.nil, false) h0u4
         ) (
          K0u3 (t0u2, IntKind.wrap .i64 (s0u2.2 + 1)) h0u4
         )
        )
       ) (
        nilChk b fun a_6 =>
        Lift.load Value.bool (a_6.add 1) h0u3 fun v_15 =>
        Q (s0u2.1, (!v_15)) h0u3
       )
      ) (Sl.nil, 0) h0u1
     )
    ) 0 h0
   )
  )

def nat_Right (x0 : Sl) (h : Heap) (Q : Bool → Heap → Prop) : Prop :=
  nat_trim x0 h fun v h0 =>
  Q (((v.len : Nat) : Int) == ((x0.len : Nat) : Int)) h0

def ref01uCut (x0 : Sl) (h : Heap) (Q : Sl → Heap → Prop) : Prop :=
  Let (((x0.len : Nat) : Int) : Int) fun n =>
  loop (fun (s0 : Int) h0 (K0 : Int → Heap → Prop) =>
   seq (fun (K0u1 : Bool → Heap → Prop) =>
    iteB (decide (s0 > 0)) (
     idxS x0 (IntKind.wrap .i64 (s0 - 1)) 1 fun a =>
     Lift.load (Value.int .i64) a h0 fun v =>
     K0u1 (v == 0) h0
    ) (
     K0u1 false h0
    )
   ) (fun t0 h0u1 =>
    iteB t0 (
     Let (IntKind.wrap .i64 (s0 - 1) : Int) fun n_1 =>
     K0 n_1 h0u1
    ) (
     sliceOf x0 none (some s0) none 1 fun v_1 =>
     Q v_1 h0u1
    )
   )
  ) n h

def ref01uLimbs (x0 : Sl) (h : Heap) (Q : Sl → Heap → Prop) : Prop :=
  new [] h fun a h0 =>
  Let ((⟨some a, 0, 0⟩ : Sl) : Sl) fun out =>
  Let (IntKind.wrap .i64 (((x0.len : Nat) : Int) - 1) : Int) fun i =>
  loop (fun (s0 : Sl × Int) h0u1 (K0 : (Sl × Int) → Heap → Prop) =>
   iteB (decide (s0.2 ≥ 0)) (
    seq (fun (K0u1 : Sl → Heap → Prop) =>
     idxS x0 s0.2 1 fun a_1 =>
     Lift.load (Value.int .i64) a_1 h0u1 fun v_1 =>
     Let (IntKind.wrap .u64 v_1 : Int) fun carry =>
     loop (fun (s0u1 : Int × Int) h0u3 (K0u2 : (Int × Int) → Heap → Prop) =>
      iteB (decide (s0u1.2 < ((s0.1.len : Nat) : Int))) (
       idxS s0.1 s0u1.2 1 fun a_2 =>
       Lift.load (Value.int .u32) a_2 h0u3 fun v_2 =>
       Let (IntKind.wrap .u64 ((IntKind.wrap .u64 ((IntKind.wrap .u64 v_2) * 10)) + s0u1.1) : Int) fun n =>
       idxS s0.1 s0u1.2 1 fun a_3 =>
       Lift.store a_3 (Value.int .u32 (IntKind.wrap .u32 (Int.tmod n 4294967296))) h0u3 fun h0u4 =>
       Let (IntKind.wrap .u64 (Int.tdiv n 4294967296) : Int) fun carry_1 =>
       Let (IntKind.wrap .i64 (s0u1.2 + 1) : Int) fun k =>
       K0u2 (carry_1, k) h0u4
      ) (
       iteB (decide (s0u1.1 > 0)) (
        new [Value.int .u32 (IntKind.wrap .u32 s0u1.1)] h0u3 fun a_4 h0u5 =>
        appendS 1 4 s0.1 (⟨some a_4, 1, 1⟩ : Sl) h0u5 fun v_4 h0u6 =>
        K0u1 v_4 h0u6
       ) (
        K0u1 s0.1 h0u3
       )
      )
     ) (carry, 0) h0u1
    ) (fun t0 h0u2 =>
     Let (IntKind.wrap .i64 (s0.2 - 1) : Int) fun i_1 =>
     K0 (t0, i_1) h0u2
    )
   ) (
    Q s0.1 h0u1
   )
  ) (out, i) h0

def ref01uSame (a : Sl) (b : Sl) (h : Heap) (Q : Bool → Heap → Prop) : Prop :=
  iteB (((a.len : Nat) : Int) != ((b.len : Nat) : Int)) (
   Q false h
  ) (
   loop (fun (s0 : Int) h0 (K0 : Int → Heap → Prop) =>
    iteB (decide (s0 < ((a.len : Nat) : Int))) (
     idxS a s0 1 fun a_1 =>
     Lift.load (Value.int .u32) a_1 h0 fun v =>
     idxS b s0 1 fun a_2 =>
     Lift.load (Value.int .u32) a_2 h0 fun v_1 =>
     iteB (v != v_1) (
      Q false h0
     ) (
      Let (IntKind.wrap .i64 (s0 + 1) : Int) fun i =>
      K0 i h0
     )
    ) (
     Q true h0
    )
   ) 0 h
  )

def ref01uText (x0 : Sl) (h : Heap) (Q : ByteArray → Heap → Prop) : Prop :=
  new [] h fun a h0 =>
  Let ((⟨some a, 0, 0⟩ : Sl) : Sl) fun out =>
  Let (IntKind.wrap .i64 (((x0.len : Nat) : Int) - 1) : Int) fun i =>
  loop (fun (s0 : Sl × Int) h0u1 (K0 : (Sl × Int) → Heap → Prop) =>
   iteB (decide (s0.2 ≥ 0)) (
    idxS x0 s0.2 1 fun a_1 =>
    Lift.load (Value.int .i64) a_1 h0u1 fun v_1 =>
    new [Value.int .u8 (IntKind.wrap .u8 (IntKind.wrap .i64 (48 + v_1)))] h0u1 fun a_2 h0u2 =>
    appendS 1 1 s0.1 (⟨some a_2, 1, 1⟩ : Sl) h0u2 fun v_3 h0u3 =>
    Let (IntKind.wrap .i64 (s0.2 - 1) : Int) fun i_1 =>
    K0 (v_3, i_1) h0u3
   ) (
    iteB (((s0.1.len : Nat) : Int) == 0) (
     Q (ByteArray.mk #[48]) h0u1
    ) (
     strOf s0.1 h0u1 fun v_4 =>
     Q v_4 h0u1
    )
   )
  ) (out, i) h0

def law01uNatReads (limbs : Int) (s0 : ByteArray) (x0 : Sl) (h : Heap) (Q : Bool → Heap → Prop) : Prop :=
  law01uspeaks h fun v h0 =>
  iteB (!v) (
   Q false h0
  ) (
   seq (fun (K0 : Bool → Heap → Prop) =>
    iteB (decide (((s0.size : Nat) : Int) > 120)) (
     K0 true h0
    ) (
     new [Sl.toV x0] h0 fun a h0u2 =>
     law01ugreat (⟨some a, 1, 1⟩ : Sl) h0u2 fun v_2 h0u3 =>
     K0 v_2 h0u3
    )
   ) (fun t0 h0u1 =>
    iteB t0 (
     Q true h0u1
    ) (
     new [] h0u1 fun a_1 h0u4 =>
     Let ((⟨some a_1, 0, 0⟩ : Sl) : Sl) fun digits =>
     Let (decide (((s0.size : Nat) : Int) > 0) : Bool) fun ok =>
     Let (IntKind.wrap .i64 (((s0.size : Nat) : Int) - 1) : Int) fun i =>
     loop (fun (s0u1 : Sl × Bool × Int) h0u5 (K0u1 : (Sl × Bool × Int) → Heap → Prop) =>
      iteB (decide (s0u1.2.2 ≥ 0)) (
       seq (fun (K0u2 : Bool → Heap → Prop) =>
        iteB s0u1.2.1 (
         idxStr s0 s0u1.2.2 fun v_4 =>
         iteB (decide (v_4 ≥ 48)) (
          idxStr s0 s0u1.2.2 fun v_5 =>
          Let (decide (v_5 ≤ 57) : Bool) fun ok_1 =>
          K0u2 ok_1 h0u5
         ) (
          K0u2 false h0u5
         )
        ) (
         K0u2 false h0u5
        )
       ) (fun t0u1 h0u6 =>
        idxStr s0 s0u1.2.2 fun v_6 =>
        new [Value.int .i64 (IntKind.wrap .i64 ((IntKind.wrap .i64 v_6) - 48))] h0u6 fun a_2 h0u7 =>
        appendS 1 8 s0u1.1 (⟨some a_2, 1, 1⟩ : Sl) h0u7 fun v_8 h0u8 =>
        Let (IntKind.wrap .i64 (s0u1.2.2 - 1) : Int) fun i_1 =>
        K0u1 (v_8, t0u1, i_1) h0u8
       )
      ) (
       nat_New limbs h0u5 fun v_9 h0u9 =>
       nat_Bench_Parse v_9 s0 h0u9 fun v_10 h0u10 =>
       seq (fun (K0u3 : Bool → Heap → Prop) =>
        nat_Right x0 h0u10 fun v_11 h0u12 =>
        iteB (((x0.len : Nat) : Int) == 0) (
         K0u3 (!(v_11 == true)) h0u12
        ) (
         idxS x0 (IntKind.wrap .i64 (((x0.len : Nat) : Int) - 1)) 1 fun a_3 =>
         Lift.load (Value.int .u32) a_3 h0u12 fun v_12 =>
         K0u3 (!(v_11 == (v_12 != 0))) h0u12
        )
       ) (fun t0u2 h0u11 =>
        iteB t0u2 (
         Q false h0u11
        ) (
         iteB (!s0u1.2.1) (
          seq (fun (K0u4 : Bool → Heap → Prop) =>
           iteB (!v_10.2) (
            iteB (((v_10.1.len : Nat) : Int) == 0) (
             nat_Bench_Over v_9 h0u11 fun v_13 h0u14 =>
             K0u4 (!v_13) h0u14
            ) (
             K0u4 false h0u11
            )
           ) (
            K0u4 false h0u11
           )
          ) (fun t0u3 h0u13 =>
           Q t0u3 h0u13
          )
         ) (
          ref01uCut s0u1.1 h0u11 fun v_14 h0u15 =>
          ref01uLimbs v_14 h0u15 fun v_15 h0u16 =>
          iteB (decide (((v_15.len : Nat) : Int) > (if 1 > limbs then 1 else limbs))) (
           seq (fun (K0u5 : Bool → Heap → Prop) =>
            iteB (!v_10.2) (
             iteB (((v_10.1.len : Nat) : Int) == 0) (
              nat_Bench_Over v_9 h0u16 fun v_16 h0u18 =>
              K0u5 v_16 h0u18
             ) (
              K0u5 false h0u16
             )
            ) (
             K0u5 false h0u16
            )
           ) (fun t0u4 h0u17 =>
            Q t0u4 h0u17
           )
          ) (
           seq (fun (K0u6 : Bool → Heap → Prop) =>
            iteB v_10.2 (
             ref01uSame v_10.1 v_15 h0u16 fun v_17 h0u20 =>
             iteB v_17 (
              nat_Bench_Over v_9 h0u20 fun v_18 h0u21 =>
              iteB (!v_18) (
               nat_Text v_10.1 h0u21 fun v_19 h0u22 =>
               ref01uCut s0u1.1 h0u22 fun v_20 h0u23 =>
               ref01uText v_20 h0u23 fun v_21 h0u24 =>
               K0u6 (v_19.toList == v_21.toList) h0u24
              ) (
               K0u6 false h0u21
              )
             ) (
              K0u6 false h0u20
             )
            ) (
             K0u6 false h0u16
            )
           ) (fun t0u5 h0u19 =>
            Q t0u5 h0u19
           )
          )
         )
        )
       )
      )
     ) (digits, ok, i) h0u4
    )
   )
  )
end Go.Sh

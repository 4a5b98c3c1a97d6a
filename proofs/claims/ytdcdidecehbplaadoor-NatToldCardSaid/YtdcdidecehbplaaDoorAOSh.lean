/- The functions, as they are seen: printed by lift.py. -/
import Derived.Test.YtdcdidecehbplaaDoorLiftExt
set_option linter.unusedVariables false
set_option linter.unusedSimpArgs false
namespace Go.Sh
open Go Go.Lift

/-- Where a variable of a package lies. -/
abbrev g_math_bits_deBruijn32tab : Nat := 0

def nat_New (limbs : Int) (h : Heap) (Q : ((Option Addr)) → Heap → Prop) : Prop :=
  new [Value.int .i64 (if 1 > limbs then 1 else limbs), Value.bool false] h fun a h0 =>
  Q (some a) h0

def nat_trim (x0 : Sl) (h : Heap) (Q : Sl → Heap → Prop) : Prop :=
  loop (fun (s0 : Sl) h0 (K0 : Sl → Heap → Prop) =>
   seq (fun (K0u1 : Bool → Heap → Prop) =>
    iteB (decide (((s0.len : Nat) : Int) > 0)) (
     idxS s0 (IntKind.wrap .i64 (((s0.len : Nat) : Int) - 1)) 1 fun a =>
     Lift.load (Value.int .u32) a h0 fun v =>
     K0u1 (v == 0) h0
    ) (
     K0u1 false h0
    )
   ) (fun t0 h0u1 =>
    iteB t0 (
     sliceOf s0 none (some (IntKind.wrap .i64 (((s0.len : Nat) : Int) - 1))) none 1 fun v_1 =>
     K0 v_1 h0u1
    ) (
     Q s0 h0u1
    )
   )
  ) x0 h

def nat_times (x0 : Sl) (y : Sl) (h : Heap) (Q : Sl → Heap → Prop) : Prop :=
  Let (IntKind.wrap .i64 (((x0.len : Nat) : Int) + ((y.len : Nat) : Int)) : Int) fun t15 =>
  mkS [Value.int .u32 0] 4 t15 t15 h fun v h0 =>
  loop (fun (s0 : Int) h0u1 (K0 : Int → Heap → Prop) =>
   iteB (decide (s0 < ((x0.len : Nat) : Int))) (
    idxS x0 s0 1 fun a =>
    Lift.load (Value.int .u32) a h0u1 fun v_1 =>
    loop (fun (s0u1 : Int × Int) h0u2 (K0u1 : (Int × Int) → Heap → Prop) =>
     iteB (decide (s0u1.2 < ((y.len : Nat) : Int))) (
      idxS y s0u1.2 1 fun a_1 =>
      Lift.load (Value.int .u32) a_1 h0u2 fun v_2 =>
      idxS v (IntKind.wrap .i64 (s0 + s0u1.2)) 1 fun a_2 =>
      Lift.load (Value.int .u32) a_2 h0u2 fun v_3 =>
      Let (IntKind.wrap .u64 (s0u1.1 + (IntKind.wrap .u64 ((IntKind.wrap .u64 ((IntKind.wrap .u64 v_1) * (IntKind.wrap .u64 v_2))) + (IntKind.wrap .u64 v_3)))) : Int) fun carry =>
      idxS v (IntKind.wrap .i64 (s0 + s0u1.2)) 1 fun a_3 =>
      Lift.store a_3 (Value.int .u32 (IntKind.wrap .u32 carry)) h0u2 fun h0u3 =>
      Let (Int.fdiv carry (2 ^ (min (Int.toNat 32) (IntKind.bits .u64))) : Int) fun carry_1 =>
      K0u1 (carry_1, IntKind.wrap .i64 (s0u1.2 + 1)) h0u3
     ) (
      idxS v (IntKind.wrap .i64 (s0 + ((y.len : Nat) : Int))) 1 fun a_4 =>
      Lift.store a_4 (Value.int .u32 (IntKind.wrap .u32 s0u1.1)) h0u2 fun h0u4 =>
      K0 (IntKind.wrap .i64 (s0 + 1)) h0u4
     )
    ) (0, 0) h0u1
   ) (
    Q v h0u1
   )
  ) 0 h0

def slices_Clone_api_Nat_uint32 (s0 : Sl) (h : Heap) (Q : Sl → Heap → Prop) : Prop :=
  iteB s0.a.isNone (
   Q Sl.nil h
  ) (
   new [] h fun a h0 =>
   appendS 1 4 (⟨some a, 0, 0⟩ : Sl) s0 h0 fun v_1 h0u1 =>
   Q v_1 h0u1
  )

def nat_Bench_fit (b : (Option Addr)) (x0 : Sl) (h : Heap) (Q : Sl → Heap → Prop) : Prop :=
  nat_trim x0 h fun v h0 =>
  seq (fun (K0 : Unit → Heap → Prop) =>
   nilChk b fun a =>
   Lift.load Value.bool (a.add 1) h0 fun v_1 =>
   iteB v_1 (
    nilChk b fun a_1 =>
    Lift.store (a_1.add 1) (Value.bool true) h0 fun h0u2 =>
    K0 () h0u2
   ) (
    nilChk b fun a_2 =>
    Lift.load (Value.int .i64) (a_2.add 0) h0 fun v_2 =>
    nilChk b fun a_3 =>
    Lift.store (a_3.add 1) (Value.bool (decide (((v.len : Nat) : Int) > v_2))) h0 fun h0u3 =>
    K0 () h0u3
   )
  ) (fun t0 h0u1 =>
   nilChk b fun a_4 =>
   Lift.load Value.bool (a_4.add 1) h0u1 fun v_3 =>
   iteB v_3 (
    Q Sl.nil h0u1
   ) (
    slices_Clone_api_Nat_uint32 v h0u1 fun v_4 h0u4 =>
    Q v_4 h0u4
   )
  )

def nat_Bench_Mul (b : (Option Addr)) (x0 : Sl) (y : Sl) (h : Heap) (Q : Sl → Heap → Prop) : Prop :=
  nat_trim x0 h fun v h0 =>
  nat_trim y h0 fun v_1 h0u1 =>
  nat_times v v_1 h0u1 fun v_2 h0u2 =>
  nat_Bench_fit b v_2 h0u2 fun v_3 h0u3 =>
  Q v_3 h0u3

def nat_Bench_Over (b : (Option Addr)) (h : Heap) (Q : Bool → Heap → Prop) : Prop :=
  nilChk b fun a =>
  Lift.load Value.bool (a.add 1) h fun v =>
  Q v h

def nat_Of (n : Int) (h : Heap) (Q : Sl → Heap → Prop) : Prop :=
  new [Value.int .u32 (IntKind.wrap .u32 n), Value.int .u32 (IntKind.wrap .u32 (Int.fdiv n (2 ^ (min (Int.toNat 32) (IntKind.bits .u64)))))] h fun a h0 =>
  nat_trim (⟨some a, 2, 2⟩ : Sl) h0 fun v_1 h0u1 =>
  Q v_1 h0u1

def nat_small (x0 : Sl) (h : Heap) (Q : (Int × Bool) → Heap → Prop) : Prop :=
  nat_trim x0 h fun v h0 =>
  Let (IntKind.wrap .i64 (((v.len : Nat) : Int) - 1) : Int) fun i =>
  loop (fun (s0 : Int × Int) h0u1 (K0 : (Int × Int) → Heap → Prop) =>
   iteB (decide (s0.2 ≥ 0)) (
    idxS v s0.2 1 fun a =>
    Lift.load (Value.int .u32) a h0u1 fun v_1 =>
    Let (IntKind.wrap .u64 (((BitVec.ofInt (IntKind.bits .u64) (IntKind.wrap .u64 (s0.1 * 2 ^ (min (Int.toNat 32) (IntKind.bits .u64)))) ||| BitVec.ofInt (IntKind.bits .u64) (IntKind.wrap .u64 v_1)).toNat : Int)) : Int) fun n =>
    Let (IntKind.wrap .i64 (s0.2 - 1) : Int) fun i_1 =>
    K0 (n, i_1) h0u1
   ) (
    Let (decide (((v.len : Nat) : Int) ≤ 2) : Bool) fun ok =>
    Q (s0.1, ok) h0u1
   )
  ) (0, i) h0

def nat_plus (x0 : Sl) (y : Sl) (h : Heap) (Q : Sl → Heap → Prop) : Prop :=
  loop (fun (s0 : Sl × Int × Int) h0 (K0 : (Sl × Int × Int) → Heap → Prop) =>
   iteB (decide (s0.2.2 < (if ((y.len : Nat) : Int) > ((x0.len : Nat) : Int) then ((y.len : Nat) : Int) else ((x0.len : Nat) : Int)))) (
    loop (fun (s0u1 : Int × Int) h0u1 (K0u1 : (Int × Int) → Heap → Prop) =>
     iteB (decide (s0u1.2 < 2)) (
      seq (fun (K0u2 : Int → Heap → Prop) =>
       idxV Sl.toV [Sl.toV x0, Sl.toV y] 2 s0u1.2 1 fun v =>
       iteB (decide (s0.2.2 < ((v.len : Nat) : Int))) (
        idxS v s0.2.2 1 fun a =>
        Lift.load (Value.int .u32) a h0u1 fun v_1 =>
        Let (IntKind.wrap .u64 (s0u1.1 + (IntKind.wrap .u64 v_1)) : Int) fun carry =>
        K0u2 carry h0u1
       ) (
        K0u2 s0u1.1 h0u1
       )
      ) (fun t0 h0u2 =>
       K0u1 (t0, IntKind.wrap .i64 (s0u1.2 + 1)) h0u2
      )
     ) (
      new [Value.int .u32 (IntKind.wrap .u32 s0u1.1)] h0u1 fun a_1 h0u3 =>
      appendS 1 4 s0.1 (⟨some a_1, 1, 1⟩ : Sl) h0u3 fun v_3 h0u4 =>
      Let (Int.fdiv s0u1.1 (2 ^ (min (Int.toNat 32) (IntKind.bits .u64))) : Int) fun carry_1 =>
      K0 (v_3, carry_1, IntKind.wrap .i64 (s0.2.2 + 1)) h0u4
     )
    ) (s0.2.1, 0) h0
   ) (
    new [Value.int .u32 (IntKind.wrap .u32 s0.2.1)] h0 fun a_2 h0u5 =>
    appendS 1 4 s0.1 (⟨some a_2, 1, 1⟩ : Sl) h0u5 fun v_5 h0u6 =>
    Q v_5 h0u6
   )
  ) (Sl.nil, 0, 0) h

def nat_bit (x0 : Sl) (at0 : Int) (h : Heap) (Q : Int → Heap → Prop) : Prop :=
  idxS x0 (IntKind.wrap .i64 (Int.tdiv at0 32)) 1 fun a =>
  Lift.load (Value.int .u32) a h fun v =>
  (0 ≤ (Int.tmod at0 32)) ∧
  Q (IntKind.wrap .u32 (((BitVec.ofInt (IntKind.bits .u32) (Int.fdiv v (2 ^ (min (Int.toNat (Int.tmod at0 32)) (IntKind.bits .u32)))) &&& BitVec.ofInt (IntKind.bits .u32) 1).toNat : Int))) h

def nat_sign (n : Int) (h : Heap) (Q : Int → Heap → Prop) : Prop :=
  Q (if (-1) > (if 1 < n then 1 else n) then (-1) else (if 1 < n then 1 else n)) h

def nat_Cmp (x0 : Sl) (y : Sl) (h : Heap) (Q : Int → Heap → Prop) : Prop :=
  nat_trim x0 h fun v h0 =>
  nat_trim y h0 fun v_1 h0u1 =>
  iteB (((v.len : Nat) : Int) != ((v_1.len : Nat) : Int)) (
   nat_sign (IntKind.wrap .i64 (((v.len : Nat) : Int) - ((v_1.len : Nat) : Int))) h0u1 fun v_2 h0u2 =>
   Q v_2 h0u2
  ) (
   Let (IntKind.wrap .i64 (((v.len : Nat) : Int) - 1) : Int) fun i =>
   loop (fun (s0 : Int) h0u3 (K0 : Int → Heap → Prop) =>
    iteB (decide (s0 ≥ 0)) (
     idxS v s0 1 fun a =>
     Lift.load (Value.int .u32) a h0u3 fun v_3 =>
     idxS v_1 s0 1 fun a_1 =>
     Lift.load (Value.int .u32) a_1 h0u3 fun v_4 =>
     iteB (v_3 != v_4) (
      idxS v s0 1 fun a_2 =>
      Lift.load (Value.int .u32) a_2 h0u3 fun v_5 =>
      idxS v_1 s0 1 fun a_3 =>
      Lift.load (Value.int .u32) a_3 h0u3 fun v_6 =>
      nat_sign (IntKind.wrap .i64 ((IntKind.wrap .i64 v_5) - (IntKind.wrap .i64 v_6))) h0u3 fun v_7 h0u4 =>
      Q v_7 h0u4
     ) (
      Let (IntKind.wrap .i64 (s0 - 1) : Int) fun i_1 =>
      K0 i_1 h0u3
     )
    ) (
     Q 0 h0u3
    )
   ) i h0u1
  )

def nat_minus (x0 : Sl) (y : Sl) (h : Heap) (Q : Sl → Heap → Prop) : Prop :=
  loop (fun (s0 : Sl × Int × Int) h0 (K0 : (Sl × Int × Int) → Heap → Prop) =>
   iteB (decide (s0.2.2 < ((x0.len : Nat) : Int))) (
    idxS x0 s0.2.2 1 fun a =>
    Lift.load (Value.int .u32) a h0 fun v =>
    Let (IntKind.wrap .u64 ((IntKind.wrap .u64 v) - s0.2.1) : Int) fun d =>
    seq (fun (K0u1 : Int → Heap → Prop) =>
     iteB (decide (s0.2.2 < ((y.len : Nat) : Int))) (
      idxS y s0.2.2 1 fun a_1 =>
      Lift.load (Value.int .u32) a_1 h0 fun v_1 =>
      Let (IntKind.wrap .u64 (d - (IntKind.wrap .u64 v_1)) : Int) fun d_1 =>
      K0u1 d_1 h0
     ) (
      K0u1 d h0
     )
    ) (fun t0 h0u1 =>
     new [Value.int .u32 (IntKind.wrap .u32 t0)] h0u1 fun a_2 h0u2 =>
     appendS 1 4 s0.1 (⟨some a_2, 1, 1⟩ : Sl) h0u2 fun v_3 h0u3 =>
     Let (Int.fdiv t0 (2 ^ (min (Int.toNat 63) (IntKind.bits .u64))) : Int) fun borrow =>
     K0 (v_3, borrow, IntKind.wrap .i64 (s0.2.2 + 1)) h0u3
    )
   ) (
    nat_trim s0.1 h0 fun v_4 h0u4 =>
    Q v_4 h0u4
   )
  ) (Sl.nil, 0, 0) h

def nat_divide (x0 : Sl) (y : Sl) (h : Heap) (Q : (Sl × Sl) → Heap → Prop) : Prop :=
  nat_small x0 h fun v h0 =>
  nat_small y h0 fun v_1 h0u1 =>
  seq (fun (K0 : Bool → Heap → Prop) =>
   iteB v.2 (
    K0 v_1.2 h0u1
   ) (
    K0 false h0u1
   )
  ) (fun t0 h0u2 =>
   iteB t0 (
    (v_1.1 ≠ 0) ∧
    (v_1.1 ≠ 0) ∧
    nat_Of (IntKind.wrap .u64 (Int.tdiv v.1 v_1.1)) h0u2 fun v_2 h0u3 =>
    nat_Of (Int.tmod v.1 v_1.1) h0u3 fun v_3 h0u4 =>
    Q (v_2, v_3) h0u4
   ) (
    nat_trim x0 h0u2 fun v_4 h0u5 =>
    nat_trim y h0u5 fun v_5 h0u6 =>
    Let (((v_4.len : Nat) : Int) : Int) fun t38 =>
    mkS [Value.int .u32 0] 4 t38 t38 h0u6 fun v_6 h0u7 =>
    Let (IntKind.wrap .i64 ((IntKind.wrap .i64 (((v_4.len : Nat) : Int) * 32)) - 1) : Int) fun at0 =>
    loop (fun (s0 : Sl × Int) h0u8 (K0u1 : (Sl × Int) → Heap → Prop) =>
     iteB (decide (s0.2 ≥ 0)) (
      seq (fun (K0u2 : Sl → Heap → Prop) =>
       nat_plus s0.1 s0.1 h0u8 fun v_7 h0u10 =>
       idxS v_7 0 1 fun a =>
       Lift.load (Value.int .u32) a h0u10 fun v_8 =>
       nat_bit v_4 s0.2 h0u10 fun v_9 h0u11 =>
       (cell? h0u11 a = some (Value.int .u32 v_8)) ∧
       idxS v_7 0 1 fun a_1 =>
       Lift.store a_1 (Value.int .u32 (IntKind.wrap .u32 (((BitVec.ofInt (IntKind.bits .u32) v_8 ||| BitVec.ofInt (IntKind.bits .u32) v_9).toNat : Int)))) h0u11 fun h0u12 =>
       nat_trim v_7 h0u12 fun v_10 h0u13 =>
       nat_Cmp v_10 v_5 h0u13 fun v_11 h0u14 =>
       iteB (decide (v_11 ≥ 0)) (
        nat_minus v_10 v_5 h0u14 fun v_12 h0u15 =>
        idxS v_6 (IntKind.wrap .i64 (Int.tdiv s0.2 32)) 1 fun a_2 =>
        Lift.load (Value.int .u32) a_2 h0u15 fun v_13 =>
        (0 ≤ (Int.tmod s0.2 32)) ∧
        idxS v_6 (IntKind.wrap .i64 (Int.tdiv s0.2 32)) 1 fun a_3 =>
        Lift.store a_3 (Value.int .u32 (IntKind.wrap .u32 (((BitVec.ofInt (IntKind.bits .u32) v_13 ||| BitVec.ofInt (IntKind.bits .u32) (IntKind.wrap .u32 (1 * 2 ^ (min (Int.toNat (Int.tmod s0.2 32)) (IntKind.bits .u32))))).toNat : Int)))) h0u15 fun h0u16 =>
        K0u2 v_12 h0u16
       ) (
        K0u2 v_10 h0u14
       )
      ) (fun t0u1 h0u9 =>
       Let (IntKind.wrap .i64 (s0.2 - 1) : Int) fun at0u1 =>
       K0u1 (t0u1, at0u1) h0u9
      )
     ) (
      nat_trim v_6 h0u8 fun v_14 h0u17 =>
      Q (v_14, s0.1) h0u17
     )
    ) (Sl.nil, at0) h0u7
   )
  )

def slices_Reverse_byte_byte (s0 : Sl) (h : Heap) (Q : Unit → Heap → Prop) : Prop :=
  Let (IntKind.wrap .i64 (((s0.len : Nat) : Int) - 1) : Int) fun j =>
  loop (fun (s0u1 : Int × Int) h0 (K0 : (Int × Int) → Heap → Prop) =>
   iteB (decide (s0u1.1 < s0u1.2)) (
    idxS s0 s0u1.2 1 fun a =>
    Lift.load (Value.int .u8) a h0 fun v =>
    idxS s0 s0u1.1 1 fun a_1 =>
    Lift.load (Value.int .u8) a_1 h0 fun v_1 =>
    idxS s0 s0u1.1 1 fun a_2 =>
    Lift.store a_2 (Value.int .u8 v) h0 fun h0u1 =>
    idxS s0 s0u1.2 1 fun a_3 =>
    Lift.store a_3 (Value.int .u8 v_1) h0u1 fun h0u2 =>
    Let (IntKind.wrap .i64 (s0u1.1 + 1) : Int) fun i =>
    Let (IntKind.wrap .i64 (s0u1.2 - 1) : Int) fun j_1 =>
    K0 (i, j_1) h0u2
   ) (
    Q () h0
   )
  ) (0, j) h

def nat_Text (x0 : Sl) (h : Heap) (Q : ByteArray → Heap → Prop) : Prop :=
  nat_trim x0 h fun v h0 =>
  loop (fun (s0 : Sl × Sl) h0u1 (K0 : (Sl × Sl) → Heap → Prop) =>
   iteB (decide (((s0.1.len : Nat) : Int) > 0)) (
    new [Value.int .u32 1000000000] h0u1 fun a h0u2 =>
    nat_divide s0.1 (⟨some a, 1, 1⟩ : Sl) h0u2 fun v_2 h0u3 =>
    nat_small v_2.2 h0u3 fun v_3 h0u4 =>
    loop (fun (s0u1 : Sl × Int × Int) h0u5 (K0u1 : (Sl × Int × Int) → Heap → Prop) =>
     seq (fun (K0u2 : Bool → Heap → Prop) =>
      iteB (decide (s0u1.2.2 < 9)) (
       iteB (decide (((v_2.1.len : Nat) : Int) > 0)) (
        K0u2 true h0u5
       ) (
        K0u2 (decide (s0u1.2.1 > 0)) h0u5
       )
      ) (
       K0u2 false h0u5
      )
     ) (fun t0 h0u6 =>
      iteB t0 (
       new [Value.int .u8 (IntKind.wrap .u8 (IntKind.wrap .u64 (48 + (Int.tmod s0u1.2.1 10))))] h0u6 fun a_1 h0u7 =>
       appendS 1 1 s0u1.1 (⟨some a_1, 1, 1⟩ : Sl) h0u7 fun v_5 h0u8 =>
       Let (IntKind.wrap .u64 (Int.tdiv s0u1.2.1 10) : Int) fun part =>
       Let (IntKind.wrap .i64 (s0u1.2.2 + 1) : Int) fun i =>
       K0u1 (v_5, part, i) h0u8
      ) (
       K0 (v_2.1, s0u1.1) h0u6
      )
     )
    ) (s0.2, v_3.1, 0) h0u4
   ) (
    iteB (((s0.2.len : Nat) : Int) == 0) (
     Q (ByteArray.mk #[48]) h0u1
    ) (
     slices_Reverse_byte_byte s0.2 h0u1 fun v_6 h0u9 =>
     strOf s0.2 h0u9 fun v_7 =>
     Q v_7 h0u9
    )
   )
  ) (v, Sl.nil) h0

def law01uspeaks (h : Heap) (Q : Bool → Heap → Prop) : Prop :=
  nat_New 2 h fun v h0 =>
  new [Value.int .u32 0, Value.int .u32 1] h0 fun a h0u1 =>
  new [Value.int .u32 0, Value.int .u32 1] h0u1 fun a_1 h0u2 =>
  nat_Bench_Mul v (⟨some a, 2, 2⟩ : Sl) (⟨some a_1, 2, 2⟩ : Sl) h0u2 fun v_3 h0u3 =>
  seq (fun (K0 : Bool → Heap → Prop) =>
   nat_Bench_Over v h0u3 fun v_4 h0u5 =>
   iteB v_4 (
    iteB (((v_3.len : Nat) : Int) == 0) (
     nat_Of 4294967296 h0u5 fun v_5 h0u6 =>
     nat_Text v_5 h0u6 fun v_6 h0u7 =>
     K0 (v_6.toList == (ByteArray.mk #[52, 50, 57, 52, 57, 54, 55, 50, 57, 54]).toList) h0u7
    ) (
     K0 false h0u5
    )
   ) (
    K0 false h0u5
   )
  ) (fun t0 h0u4 =>
   Q t0 h0u4
  )

def law01ugreat (l : Sl) (h : Heap) (Q : Bool → Heap → Prop) : Prop :=
  loop (fun (s0 : Int) h0 (K0 : Int → Heap → Prop) =>
   iteB (decide (s0 < ((l.len : Nat) : Int))) (
    idxS l s0 1 fun a =>
    Lift.load Sl.toV a h0 fun v =>
    iteB (decide (((v.len : Nat) : Int) > 12)) (
     Q true h0
    ) (
     K0 (IntKind.wrap .i64 (s0 + 1)) h0
    )
   ) (
    Q false h0
   )
  ) 0 h

def ref01uCut (x0 : Sl) (h : Heap) (Q : Sl → Heap → Prop) : Prop :=
  Let (((x0.len : Nat) : Int) : Int) fun n =>
  loop (fun (s0 : Int) h0 (K0 : Int → Heap → Prop) =>
   seq (fun (K0u1 : Bool → Heap → Prop) =>
    iteB (decide (s0 > 0)) (
     idxS x0 (IntKind.wrap .i64 (s0 - 1)) 1 fun a =>
     Lift.load (Value.int .i64) a h0 fun v =>
     K0u1 (v == 0) h0
    ) (
     K0u1 false h0
    )
   ) (fun t0 h0u1 =>
    iteB t0 (
     Let (IntKind.wrap .i64 (s0 - 1) : Int) fun n_1 =>
     K0 n_1 h0u1
    ) (
     sliceOf x0 none (some s0) none 1 fun v_1 =>
     Q v_1 h0u1
    )
   )
  ) n h

def ref01uOf (x0 : Sl) (h : Heap) (Q : Sl → Heap → Prop) : Prop :=
  new [] h fun a h0 =>
  Let ((⟨some a, 0, 0⟩ : Sl) : Sl) fun out =>
  Let (IntKind.wrap .i64 (((x0.len : Nat) : Int) - 1) : Int) fun i =>
  loop (fun (s0 : Sl × Int) h0u1 (K0 : (Sl × Int) → Heap → Prop) =>
   iteB (decide (s0.2 ≥ 0)) (
    idxS x0 s0.2 1 fun a_1 =>
    Lift.load (Value.int .u32) a_1 h0u1 fun v_1 =>
    Let (IntKind.wrap .i64 v_1 : Int) fun carry =>
    loop (fun (s0u1 : Int × Int) h0u2 (K0u1 : (Int × Int) → Heap → Prop) =>
     iteB (decide (s0u1.2 < ((s0.1.len : Nat) : Int))) (
      idxS s0.1 s0u1.2 1 fun a_2 =>
      Lift.load (Value.int .i64) a_2 h0u2 fun v_2 =>
      Let (IntKind.wrap .i64 ((IntKind.wrap .i64 (v_2 * 4294967296)) + s0u1.1) : Int) fun n =>
      idxS s0.1 s0u1.2 1 fun a_3 =>
      Lift.store a_3 (Value.int .i64 (Int.tmod n 10)) h0u2 fun h0u3 =>
      Let (IntKind.wrap .i64 (Int.tdiv n 10) : Int) fun carry_1 =>
      Let (IntKind.wrap .i64 (s0u1.2 + 1) : Int) fun k =>
      K0u1 (carry_1, k) h0u3
     ) (
      loop (fun (s0u2 : Sl × Int) h0u4 (K0u2 : (Sl × Int) → Heap → Prop) =>
       iteB (decide (s0u2.2 > 0)) (
        new [Value.int .i64 (Int.tmod s0u2.2 10)] h0u4 fun a_4 h0u5 =>
        appendS 1 8 s0u2.1 (⟨some a_4, 1, 1⟩ : Sl) h0u5 fun v_4 h0u6 =>
        Let (IntKind.wrap .i64 (Int.tdiv s0u2.2 10) : Int) fun carry_2 =>
        K0u2 (v_4, carry_2) h0u6
       ) (
        Let (IntKind.wrap .i64 (s0.2 - 1) : Int) fun i_1 =>
        K0 (s0u2.1, i_1) h0u4
       )
      ) (s0.1, s0u1.1) h0u2
     )
    ) (carry, 0) h0u1
   ) (
    ref01uCut s0.1 h0u1 fun v_5 h0u7 =>
    Q v_5 h0u7
   )
  ) (out, i) h0

def nat_Bench_Limbs (b : (Option Addr)) (h : Heap) (Q : Int → Heap → Prop) : Prop :=
  nilChk b fun a =>
  Lift.load (Value.int .i64) (a.add 0) h fun v =>
  Q v h

def nat_Bench_Add (b : (Option Addr)) (x0 : Sl) (y : Sl) (h : Heap) (Q : Sl → Heap → Prop) : Prop :=
  nat_plus x0 y h fun v h0 =>
  nat_Bench_fit b v h0 fun v_1 h0u1 =>
  Q v_1 h0u1

def ref01uAdd (x0 : Sl) (y : Sl) (h : Heap) (Q : Sl → Heap → Prop) : Prop :=
  new [] h fun a h0 =>
  Let ((⟨some a, 0, 0⟩ : Sl) : Sl) fun out =>
  loop (fun (s0 : Sl × Int × Int) h0u1 (K0 : (Sl × Int × Int) → Heap → Prop) =>
   seq (fun (K0u1 : Bool → Heap → Prop) =>
    iteB (decide (s0.2.2 < ((x0.len : Nat) : Int))) (
     K0u1 true h0u1
    ) (
     iteB (decide (s0.2.2 < ((y.len : Nat) : Int))) (
      K0u1 true h0u1
     ) (
      K0u1 (decide (s0.2.1 > 0)) h0u1
     )
    )
   ) (fun t0 h0u2 =>
    iteB t0 (
     seq (fun (K0u2 : Int → Heap → Prop) =>
      iteB (decide (s0.2.2 < ((x0.len : Nat) : Int))) (
       idxS x0 s0.2.2 1 fun a_1 =>
       Lift.load (Value.int .i64) a_1 h0u2 fun v_1 =>
       Let (IntKind.wrap .i64 (s0.2.1 + v_1) : Int) fun n =>
       K0u2 n h0u2
      ) (
       K0u2 s0.2.1 h0u2
      )
     ) (fun t0u1 h0u3 =>
      seq (fun (K0u3 : Int → Heap → Prop) =>
       iteB (decide (s0.2.2 < ((y.len : Nat) : Int))) (
        idxS y s0.2.2 1 fun a_2 =>
        Lift.load (Value.int .i64) a_2 h0u3 fun v_2 =>
        Let (IntKind.wrap .i64 (t0u1 + v_2) : Int) fun n_1 =>
        K0u3 n_1 h0u3
       ) (
        K0u3 t0u1 h0u3
       )
      ) (fun t0u2 h0u4 =>
       new [Value.int .i64 (Int.tmod t0u2 10)] h0u4 fun a_3 h0u5 =>
       appendS 1 8 s0.1 (⟨some a_3, 1, 1⟩ : Sl) h0u5 fun v_4 h0u6 =>
       Let (IntKind.wrap .i64 (Int.tdiv t0u2 10) : Int) fun carry =>
       Let (IntKind.wrap .i64 (s0.2.2 + 1) : Int) fun i =>
       K0 (v_4, carry, i) h0u6
      )
     )
    ) (
     ref01uCut s0.1 h0u2 fun v_5 h0u7 =>
     Q v_5 h0u7
    )
   )
  ) (out, 0, 0) h0

def ref01uLimbs (x0 : Sl) (h : Heap) (Q : Sl → Heap → Prop) : Prop :=
  new [] h fun a h0 =>
  Let ((⟨some a, 0, 0⟩ : Sl) : Sl) fun out =>
  Let (IntKind.wrap .i64 (((x0.len : Nat) : Int) - 1) : Int) fun i =>
  loop (fun (s0 : Sl × Int) h0u1 (K0 : (Sl × Int) → Heap → Prop) =>
   iteB (decide (s0.2 ≥ 0)) (
    seq (fun (K0u1 : Sl → Heap → Prop) =>
     idxS x0 s0.2 1 fun a_1 =>
     Lift.load (Value.int .i64) a_1 h0u1 fun v_1 =>
     Let (IntKind.wrap .u64 v_1 : Int) fun carry =>
     loop (fun (s0u1 : Int × Int) h0u3 (K0u2 : (Int × Int) → Heap → Prop) =>
      iteB (decide (s0u1.2 < ((s0.1.len : Nat) : Int))) (
       idxS s0.1 s0u1.2 1 fun a_2 =>
       Lift.load (Value.int .u32) a_2 h0u3 fun v_2 =>
       Let (IntKind.wrap .u64 ((IntKind.wrap .u64 ((IntKind.wrap .u64 v_2) * 10)) + s0u1.1) : Int) fun n =>
       idxS s0.1 s0u1.2 1 fun a_3 =>
       Lift.store a_3 (Value.int .u32 (IntKind.wrap .u32 (Int.tmod n 4294967296))) h0u3 fun h0u4 =>
       Let (IntKind.wrap .u64 (Int.tdiv n 4294967296) : Int) fun carry_1 =>
       Let (IntKind.wrap .i64 (s0u1.2 + 1) : Int) fun k =>
       K0u2 (carry_1, k) h0u4
      ) (
       iteB (decide (s0u1.1 > 0)) (
        new [Value.int .u32 (IntKind.wrap .u32 s0u1.1)] h0u3 fun a_4 h0u5 =>
        appendS 1 4 s0.1 (⟨some a_4, 1, 1⟩ : Sl) h0u5 fun v_4 h0u6 =>
        K0u1 v_4 h0u6
       ) (
        K0u1 s0.1 h0u3
       )
      )
     ) (carry, 0) h0u1
    ) (fun t0 h0u2 =>
     Let (IntKind.wrap .i64 (s0.2 - 1) : Int) fun i_1 =>
     K0 (t0, i_1) h0u2
    )
   ) (
    Q s0.1 h0u1
   )
  ) (out, i) h0

def ref01uSame (a : Sl) (b : Sl) (h : Heap) (Q : Bool → Heap → Prop) : Prop :=
  iteB (((a.len : Nat) : Int) != ((b.len : Nat) : Int)) (
   Q false h
  ) (
   loop (fun (s0 : Int) h0 (K0 : Int → Heap → Prop) =>
    iteB (decide (s0 < ((a.len : Nat) : Int))) (
     idxS a s0 1 fun a_1 =>
     Lift.load (Value.int .u32) a_1 h0 fun v =>
     idxS b s0 1 fun a_2 =>
     Lift.load (Value.int .u32) a_2 h0 fun v_1 =>
     iteB (v != v_1) (
      Q false h0
     ) (
      Let (IntKind.wrap .i64 (s0 + 1) : Int) fun i =>
      K0 i h0
     )
    ) (
     Q true h0
    )
   ) 0 h
  )

def nat_Right (x0 : Sl) (h : Heap) (Q : Bool → Heap → Prop) : Prop :=
  nat_trim x0 h fun v h0 =>
  Q (((v.len : Nat) : Int) == ((x0.len : Nat) : Int)) h0

def law01utold (b : (Option Addr)) (limbs : Int) (x0 : Sl) (want : Sl) (h : Heap) (Q : Bool → Heap → Prop) : Prop :=
  ref01uLimbs want h fun v h0 =>
  iteB (decide (((v.len : Nat) : Int) > limbs)) (
   seq (fun (K0 : Bool → Heap → Prop) =>
    nat_Bench_Over b h0 fun v_1 h0u2 =>
    iteB v_1 (
     K0 (((x0.len : Nat) : Int) == 0) h0u2
    ) (
     K0 false h0u2
    )
   ) (fun t0 h0u1 =>
    Q t0 h0u1
   )
  ) (
   seq (fun (K0u1 : Bool → Heap → Prop) =>
    nat_Bench_Over b h0 fun v_2 h0u4 =>
    iteB (!v_2) (
     ref01uSame x0 v h0u4 fun v_3 h0u5 =>
     iteB v_3 (
      nat_Right x0 h0u5 fun v_4 h0u6 =>
      K0u1 v_4 h0u6
     ) (
      K0u1 false h0u5
     )
    ) (
     K0u1 false h0u4
    )
   ) (fun t0u1 h0u3 =>
    Q t0u1 h0u3
   )
  )

def nat_Bench_Sub (b : (Option Addr)) (x0 : Sl) (y : Sl) (h : Heap) (Q : Sl → Heap → Prop) : Prop :=
  nat_Cmp x0 y h fun v h0 =>
  iteB (decide (v < 0)) (
   Q Sl.nil h0
  ) (
   nat_trim y h0 fun v_1 h0u1 =>
   nat_minus x0 v_1 h0u1 fun v_2 h0u2 =>
   nat_Bench_fit b v_2 h0u2 fun v_3 h0u3 =>
   Q v_3 h0u3
  )

def ref01uCmp (x0 : Sl) (y : Sl) (h : Heap) (Q : Int → Heap → Prop) : Prop :=
  iteB (((x0.len : Nat) : Int) != ((y.len : Nat) : Int)) (
   iteB (decide (((x0.len : Nat) : Int) < ((y.len : Nat) : Int))) (
    Q (-1) h
   ) (
    Q 1 h
   )
  ) (
   Let (IntKind.wrap .i64 (((x0.len : Nat) : Int) - 1) : Int) fun i =>
   loop (fun (s0 : Int) h0 (K0 : Int → Heap → Prop) =>
    iteB (decide (s0 ≥ 0)) (
     idxS x0 s0 1 fun a =>
     Lift.load (Value.int .i64) a h0 fun v =>
     idxS y s0 1 fun a_1 =>
     Lift.load (Value.int .i64) a_1 h0 fun v_1 =>
     iteB (decide (v < v_1)) (
      Q (-1) h0
     ) (
      idxS x0 s0 1 fun a_2 =>
      Lift.load (Value.int .i64) a_2 h0 fun v_2 =>
      idxS y s0 1 fun a_3 =>
      Lift.load (Value.int .i64) a_3 h0 fun v_3 =>
      iteB (decide (v_2 > v_3)) (
       Q 1 h0
      ) (
       Let (IntKind.wrap .i64 (s0 - 1) : Int) fun i_1 =>
       K0 i_1 h0
      )
     )
    ) (
     Q 0 h0
    )
   ) i h
  )

def ref01uSub (x0 : Sl) (y : Sl) (h : Heap) (Q : Sl → Heap → Prop) : Prop :=
  ref01uCmp x0 y h fun v h0 =>
  iteB (decide (v < 0)) (
   new [] h0 fun a h0u1 =>
   Q (⟨some a, 0, 0⟩ : Sl) h0u1
  ) (
   new [] h0 fun a_1 h0u2 =>
   Let ((⟨some a_1, 0, 0⟩ : Sl) : Sl) fun out =>
   loop (fun (s0 : Sl × Int × Int) h0u3 (K0 : (Sl × Int × Int) → Heap → Prop) =>
    iteB (decide (s0.2.2 < ((x0.len : Nat) : Int))) (
     idxS x0 s0.2.2 1 fun a_2 =>
     Lift.load (Value.int .i64) a_2 h0u3 fun v_3 =>
     Let (IntKind.wrap .i64 (v_3 - s0.2.1) : Int) fun n =>
     seq (fun (K0u1 : Int → Heap → Prop) =>
      iteB (decide (s0.2.2 < ((y.len : Nat) : Int))) (
       idxS y s0.2.2 1 fun a_3 =>
       Lift.load (Value.int .i64) a_3 h0u3 fun v_4 =>
       Let (IntKind.wrap .i64 (n - v_4) : Int) fun n_1 =>
       K0u1 n_1 h0u3
      ) (
       K0u1 n h0u3
      )
     ) (fun t0 h0u4 =>
      seq (fun (K0u2 : (Int × Int) → Heap → Prop) =>
       iteB (decide (t0 < 0)) (
        Let (IntKind.wrap .i64 (t0 + 10) : Int) fun n_2 =>
        K0u2 (1, n_2) h0u4
       ) (
        K0u2 (0, t0) h0u4
       )
      ) (fun t0u1 h0u5 =>
       new [Value.int .i64 t0u1.2] h0u5 fun a_4 h0u6 =>
       appendS 1 8 s0.1 (⟨some a_4, 1, 1⟩ : Sl) h0u6 fun v_6 h0u7 =>
       Let (IntKind.wrap .i64 (s0.2.2 + 1) : Int) fun i =>
       K0 (v_6, t0u1.1, i) h0u7
      )
     )
    ) (
     ref01uCut s0.1 h0u3 fun v_7 h0u8 =>
     Q v_7 h0u8
    )
   ) (out, 0, 0) h0u2
  )

def ref01uMul (x0 : Sl) (y : Sl) (h : Heap) (Q : Sl → Heap → Prop) : Prop :=
  Let (IntKind.wrap .i64 ((IntKind.wrap .i64 (((x0.len : Nat) : Int) + ((y.len : Nat) : Int))) + 1) : Int) fun t15 =>
  mkS [Value.int .i64 0] 8 t15 t15 h fun v h0 =>
  loop (fun (s0 : Int) h0u1 (K0 : Int → Heap → Prop) =>
   iteB (decide (s0 < ((x0.len : Nat) : Int))) (
    loop (fun (s0u1 : Int × Int) h0u2 (K0u1 : (Int × Int) → Heap → Prop) =>
     seq (fun (K0u2 : Bool → Heap → Prop) =>
      iteB (decide (s0u1.2 < ((y.len : Nat) : Int))) (
       K0u2 true h0u2
      ) (
       K0u2 (decide (s0u1.1 > 0)) h0u2
      )
     ) (fun t0 h0u3 =>
      iteB t0 (
       idxS v (IntKind.wrap .i64 (s0 + s0u1.2)) 1 fun a =>
       Lift.load (Value.int .i64) a h0u3 fun v_1 =>
       Let (IntKind.wrap .i64 (v_1 + s0u1.1) : Int) fun n =>
       seq (fun (K0u3 : Int → Heap → Prop) =>
        iteB (decide (s0u1.2 < ((y.len : Nat) : Int))) (
         idxS x0 s0 1 fun a_1 =>
         Lift.load (Value.int .i64) a_1 h0u3 fun v_2 =>
         idxS y s0u1.2 1 fun a_2 =>
         Lift.load (Value.int .i64) a_2 h0u3 fun v_3 =>
         Let (IntKind.wrap .i64 (n + (IntKind.wrap .i64 (v_2 * v_3))) : Int) fun n_1 =>
         K0u3 n_1 h0u3
        ) (
         K0u3 n h0u3
        )
       ) (fun t0u1 h0u4 =>
        idxS v (IntKind.wrap .i64 (s0 + s0u1.2)) 1 fun a_3 =>
        Lift.store a_3 (Value.int .i64 (Int.tmod t0u1 10)) h0u4 fun h0u5 =>
        Let (IntKind.wrap .i64 (Int.tdiv t0u1 10) : Int) fun carry =>
        Let (IntKind.wrap .i64 (s0u1.2 + 1) : Int) fun k =>
        K0u1 (carry, k) h0u5
       )
      ) (
       Let (IntKind.wrap .i64 (s0 + 1) : Int) fun i =>
       K0 i h0u3
      )
     )
    ) (0, 0) h0u1
   ) (
    ref01uCut v h0u1 fun v_4 h0u6 =>
    Q v_4 h0u6
   )
  ) 0 h0

def math_bits_TrailingZeros32 (x0 : Int) (h : Heap) (Q : Int → Heap → Prop) : Prop :=
  iteB (x0 == 0) (
   Q 32 h
  ) (
   (0 ≤ (Int.fdiv (IntKind.wrap .u32 ((IntKind.wrap .u32 (((BitVec.ofInt (IntKind.bits .u32) x0 &&& BitVec.ofInt (IntKind.bits .u32) (IntKind.wrap .u32 (0 - x0))).toNat : Int))) * 125613361)) (2 ^ (min (Int.toNat 27) (IntKind.bits .u32)))) ∧ (Int.fdiv (IntKind.wrap .u32 ((IntKind.wrap .u32 (((BitVec.ofInt (IntKind.bits .u32) x0 &&& BitVec.ofInt (IntKind.bits .u32) (IntKind.wrap .u32 (0 - x0))).toNat : Int))) * 125613361)) (2 ^ (min (Int.toNat 27) (IntKind.bits .u32)))) < 32) ∧
   Lift.load (Value.int .u8) ((⟨g_math_bits_deBruijn32tab, 0, none⟩ : Addr).add (Int.toNat (Int.fdiv (IntKind.wrap .u32 ((IntKind.wrap .u32 (((BitVec.ofInt (IntKind.bits .u32) x0 &&& BitVec.ofInt (IntKind.bits .u32) (IntKind.wrap .u32 (0 - x0))).toNat : Int))) * 125613361)) (2 ^ (min (Int.toNat 27) (IntKind.bits .u32)))) * 1)) h fun v =>
   Q (IntKind.wrap .i64 v) h
  )

def nat_halve (x0 : Sl) (h : Heap) (Q : (Sl × Int) → Heap → Prop) : Prop :=
  loop (fun (s0 : Int) h0 (K0 : Int → Heap → Prop) =>
   idxS x0 (IntKind.wrap .i64 (Int.tdiv s0 32)) 1 fun a =>
   Lift.load (Value.int .u32) a h0 fun v =>
   iteB (v == 0) (
    Let (IntKind.wrap .i64 (s0 + 32) : Int) fun k =>
    K0 k h0
   ) (
    idxS x0 (IntKind.wrap .i64 (Int.tdiv s0 32)) 1 fun a_1 =>
    Lift.load (Value.int .u32) a_1 h0 fun v_1 =>
    math_bits_TrailingZeros32 v_1 h0 fun v_2 h0u1 =>
    Let (IntKind.wrap .i64 (s0 + v_2) : Int) fun k_1 =>
    sliceOf x0 (some (IntKind.wrap .i64 (Int.tdiv k_1 32))) none none 1 fun v_3 =>
    slices_Clone_api_Nat_uint32 v_3 h0u1 fun v_4 h0u2 =>
    seq (fun (K0u1 : Unit → Heap → Prop) =>
     Let (Int.tmod k_1 32 : Int) fun s0u1 =>
     iteB (decide (s0u1 > 0)) (
      loop (fun (s0u2 : Int) h0u4 (K0u2 : Int → Heap → Prop) =>
       iteB (decide (s0u2 < ((v_4.len : Nat) : Int))) (
        seq (fun (K0u3 : Unit → Heap → Prop) =>
         idxS v_4 s0u2 1 fun a_2 =>
         Lift.load (Value.int .u32) a_2 h0u4 fun v_5 =>
         (0 ≤ s0u1) ∧
         idxS v_4 s0u2 1 fun a_3 =>
         Lift.store a_3 (Value.int .u32 (Int.fdiv v_5 (2 ^ (min (Int.toNat s0u1) (IntKind.bits .u32))))) h0u4 fun h0u6 =>
         iteB (decide ((IntKind.wrap .i64 (s0u2 + 1)) < ((v_4.len : Nat) : Int))) (
          idxS v_4 s0u2 1 fun a_4 =>
          Lift.load (Value.int .u32) a_4 h0u6 fun v_6 =>
          idxS v_4 (IntKind.wrap .i64 (s0u2 + 1)) 1 fun a_5 =>
          Lift.load (Value.int .u32) a_5 h0u6 fun v_7 =>
          (0 ≤ (IntKind.wrap .i64 (32 - s0u1))) ∧
          idxS v_4 s0u2 1 fun a_6 =>
          Lift.store a_6 (Value.int .u32 (IntKind.wrap .u32 (((BitVec.ofInt (IntKind.bits .u32) v_6 ||| BitVec.ofInt (IntKind.bits .u32) (IntKind.wrap .u32 (v_7 * 2 ^ (min (Int.toNat (IntKind.wrap .i64 (32 - s0u1))) (IntKind.bits .u32))))).toNat : Int)))) h0u6 fun h0u7 =>
          K0u3 () h0u7
         ) (
          K0u3 () h0u6
         )
        ) (fun t0u1 h0u5 =>
         K0u2 (IntKind.wrap .i64 (s0u2 + 1)) h0u5
        )
       ) (
        K0u1 () h0u4
       )
      ) 0 h0u2
     ) (
      K0u1 () h0u2
     )
    ) (fun t0 h0u3 =>
     nat_trim v_4 h0u3 fun v_8 h0u8 =>
     Q (v_8, k_1) h0u8
    )
   )
  ) 0 h

def nat_double (x0 : Sl) (k : Int) (h : Heap) (Q : Sl → Heap → Prop) : Prop :=
  Let (IntKind.wrap .i64 ((IntKind.wrap .i64 (Int.tdiv k 32)) + 1) : Int) fun t8 =>
  mkS [Value.int .u32 0] 4 t8 t8 h fun v h0 =>
  (0 ≤ (Int.tmod k 32)) ∧
  idxS v (IntKind.wrap .i64 (Int.tdiv k 32)) 1 fun a =>
  Lift.store a (Value.int .u32 (IntKind.wrap .u32 (1 * 2 ^ (min (Int.toNat (Int.tmod k 32)) (IntKind.bits .u32))))) h0 fun h0u1 =>
  nat_times x0 v h0u1 fun v_1 h0u2 =>
  nat_trim v_1 h0u2 fun v_2 h0u3 =>
  Q v_2 h0u3

def nat_common (x0 : Sl) (y : Sl) (h : Heap) (Q : Sl → Heap → Prop) : Prop :=
  nat_trim x0 h fun v h0 =>
  nat_trim y h0 fun v_1 h0u1 =>
  iteB (((v.len : Nat) : Int) == 0) (
   Q v_1 h0u1
  ) (
   iteB (((v_1.len : Nat) : Int) == 0) (
    Q v h0u1
   ) (
    seq (fun (K0 : Unit → Heap → Prop) =>
     nat_small v h0u1 fun v_2 h0u3 =>
     iteB v_2.2 (
      nat_small v_1 h0u3 fun v_3 h0u4 =>
      iteB v_3.2 (
       loop (fun (s0 : Int × Int) h0u5 (K0u1 : (Int × Int) → Heap → Prop) =>
        iteB (s0.2 != 0) (
         (s0.2 ≠ 0) ∧
         Let (Int.tmod s0.1 s0.2 : Int) fun m =>
         K0u1 (s0.2, m) h0u5
        ) (
         nat_Of s0.1 h0u5 fun v_4 h0u6 =>
         Q v_4 h0u6
        )
       ) (v_2.1, v_3.1) h0u4
      ) (
       K0 () h0u4
      )
     ) (
      K0 () h0u3
     )
    ) (fun t0 h0u2 =>
     nat_halve v h0u2 fun v_5 h0u7 =>
     nat_halve v_1 h0u7 fun v_6 h0u8 =>
     loop (fun (s0u1 : Sl × Sl) h0u9 (K0u2 : (Sl × Sl) → Heap → Prop) =>
      nat_Cmp s0u1.1 s0u1.2 h0u9 fun v_7 h0u10 =>
      iteB (v_7 != 0) (
       seq (fun (K0u3 : (Sl × Sl) → Heap → Prop) =>
        nat_Cmp s0u1.1 s0u1.2 h0u10 fun v_8 h0u12 =>
        iteB (decide (v_8 < 0)) (
         K0u3 (s0u1.2, s0u1.1) h0u12
        ) (
         K0u3 (s0u1.1, s0u1.2) h0u12
        )
       ) (fun t0u1 h0u11 =>
        nat_minus t0u1.1 t0u1.2 h0u11 fun v_9 h0u13 =>
        nat_halve v_9 h0u13 fun v_10 h0u14 =>
        K0u2 (v_10.1, t0u1.2) h0u14
       )
      ) (
       nat_double s0u1.1 (if v_6.2 < v_5.2 then v_6.2 else v_5.2) h0u10 fun v_11 h0u15 =>
       Q v_11 h0u15
      )
     ) (v_5.1, v_6.1) h0u8
    )
   )
  )

def nat_Bench_Gcd (b : (Option Addr)) (x0 : Sl) (y : Sl) (h : Heap) (Q : Sl → Heap → Prop) : Prop :=
  nat_common x0 y h fun v h0 =>
  nat_Bench_fit b v h0 fun v_1 h0u1 =>
  Q v_1 h0u1

def ref01uDiv (x0 : Sl) (y : Sl) (h : Heap) (Q : (Sl × Sl) → Heap → Prop) : Prop :=
  iteB (((y.len : Nat) : Int) == 0) (
   new [] h fun a h0 =>
   new [] h0 fun a_1 h0u1 =>
   Q ((⟨some a, 0, 0⟩ : Sl), (⟨some a_1, 0, 0⟩ : Sl)) h0u1
  ) (
   Let (((x0.len : Nat) : Int) : Int) fun t15 =>
   mkS [Value.int .i64 0] 8 t15 t15 h fun v_2 h0u2 =>
   new [] h0u2 fun a_2 h0u3 =>
   Let ((⟨some a_2, 0, 0⟩ : Sl) : Sl) fun r =>
   Let (IntKind.wrap .i64 (((x0.len : Nat) : Int) - 1) : Int) fun i =>
   loop (fun (s0 : Sl × Int) h0u4 (K0 : (Sl × Int) → Heap → Prop) =>
    iteB (decide (s0.2 ≥ 0)) (
     idxS x0 s0.2 1 fun a_3 =>
     Lift.load (Value.int .i64) a_3 h0u4 fun v_4 =>
     new [Value.int .i64 v_4] h0u4 fun a_4 h0u5 =>
     appendS 1 8 (⟨some a_4, 1, 1⟩ : Sl) s0.1 h0u5 fun v_6 h0u6 =>
     ref01uCut v_6 h0u6 fun v_7 h0u7 =>
     loop (fun (s0u1 : Sl) h0u8 (K0u1 : Sl → Heap → Prop) =>
      ref01uCmp s0u1 y h0u8 fun v_8 h0u9 =>
      iteB (decide (v_8 ≥ 0)) (
       ref01uSub s0u1 y h0u9 fun v_9 h0u10 =>
       idxS v_2 s0.2 1 fun a_5 =>
       Lift.load (Value.int .i64) a_5 h0u10 fun v_10 =>
       idxS v_2 s0.2 1 fun a_6 =>
       Lift.store a_6 (Value.int .i64 (IntKind.wrap .i64 (v_10 + 1))) h0u10 fun h0u11 =>
       K0u1 v_9 h0u11
      ) (
       Let (IntKind.wrap .i64 (s0.2 - 1) : Int) fun i_1 =>
       K0 (s0u1, i_1) h0u9
      )
     ) v_7 h0u7
    ) (
     ref01uCut v_2 h0u4 fun v_11 h0u12 =>
     Q (v_11, s0.1) h0u12
    )
   ) (r, i) h0u3
  )

def ref01uGcd (x0 : Sl) (y : Sl) (h : Heap) (Q : Sl → Heap → Prop) : Prop :=
  loop (fun (s0 : Sl × Sl) h0 (K0 : (Sl × Sl) → Heap → Prop) =>
   iteB (decide (((s0.2.len : Nat) : Int) > 0)) (
    ref01uDiv s0.1 s0.2 h0 fun v h0u1 =>
    K0 (s0.2, v.2) h0u1
   ) (
    Q s0.1 h0
   )
  ) (x0, y) h

def nat_Bench_Div (b : (Option Addr)) (x0 : Sl) (y : Sl) (h : Heap) (Q : (Sl × Sl) → Heap → Prop) : Prop :=
  nat_trim y h fun v h0 =>
  iteB (((v.len : Nat) : Int) == 0) (
   Q (Sl.nil, Sl.nil) h0
  ) (
   nat_divide x0 y h0 fun v_1 h0u1 =>
   nat_Bench_fit b v_1.1 h0u1 fun v_2 h0u2 =>
   nat_Bench_fit b v_1.2 h0u2 fun v_3 h0u3 =>
   nilChk b fun a =>
   Lift.load Value.bool (a.add 1) h0u3 fun v_4 =>
   iteB v_4 (
    Q (Sl.nil, Sl.nil) h0u3
   ) (
    Q (v_2, v_3) h0u3
   )
  )

def ref01uText (x0 : Sl) (h : Heap) (Q : ByteArray → Heap → Prop) : Prop :=
  new [] h fun a h0 =>
  Let ((⟨some a, 0, 0⟩ : Sl) : Sl) fun out =>
  Let (IntKind.wrap .i64 (((x0.len : Nat) : Int) - 1) : Int) fun i =>
  loop (fun (s0 : Sl × Int) h0u1 (K0 : (Sl × Int) → Heap → Prop) =>
   iteB (decide (s0.2 ≥ 0)) (
    idxS x0 s0.2 1 fun a_1 =>
    Lift.load (Value.int .i64) a_1 h0u1 fun v_1 =>
    new [Value.int .u8 (IntKind.wrap .u8 (IntKind.wrap .i64 (48 + v_1)))] h0u1 fun a_2 h0u2 =>
    appendS 1 1 s0.1 (⟨some a_2, 1, 1⟩ : Sl) h0u2 fun v_3 h0u3 =>
    Let (IntKind.wrap .i64 (s0.2 - 1) : Int) fun i_1 =>
    K0 (v_3, i_1) h0u3
   ) (
    iteB (((s0.1.len : Nat) : Int) == 0) (
     Q (ByteArray.mk #[48]) h0u1
    ) (
     strOf s0.1 h0u1 fun v_4 =>
     Q v_4 h0u1
    )
   )
  ) (out, i) h0

def law01uNatTold (limbs : Int) (x0 : Sl) (y : Sl) (h : Heap) (Q : Bool → Heap → Prop) : Prop :=
  law01uspeaks h fun v h0 =>
  iteB (!v) (
   Q false h0
  ) (
   new [Sl.toV x0, Sl.toV y] h0 fun a h0u1 =>
   law01ugreat (⟨some a, 2, 2⟩ : Sl) h0u1 fun v_2 h0u2 =>
   iteB v_2 (
    Q true h0u2
   ) (
    ref01uOf x0 h0u2 fun v_3 h0u3 =>
    ref01uOf y h0u3 fun v_4 h0u4 =>
    Let ((if 1 > limbs then 1 else limbs) : Int) fun n =>
    nat_New limbs h0u4 fun v_5 h0u5 =>
    seq (fun (K0 : Bool → Heap → Prop) =>
     nat_Bench_Limbs v_5 h0u5 fun v_6 h0u7 =>
     iteB (v_6 != n) (
      K0 true h0u7
     ) (
      nat_Bench_Over v_5 h0u7 fun v_7 h0u8 =>
      iteB v_7 (
       K0 true h0u8
      ) (
       nat_Bench_Add v_5 x0 y h0u8 fun v_8 h0u9 =>
       ref01uAdd v_3 v_4 h0u9 fun v_9 h0u10 =>
       law01utold v_5 n v_8 v_9 h0u10 fun v_10 h0u11 =>
       K0 (!v_10) h0u11
      )
     )
    ) (fun t0 h0u6 =>
     iteB t0 (
      Q false h0u6
     ) (
      nat_New limbs h0u6 fun v_11 h0u12 =>
      nat_Bench_Sub v_11 x0 y h0u12 fun v_12 h0u13 =>
      ref01uSub v_3 v_4 h0u13 fun v_13 h0u14 =>
      law01utold v_11 n v_12 v_13 h0u14 fun v_14 h0u15 =>
      iteB (!v_14) (
       Q false h0u15
      ) (
       nat_New limbs h0u15 fun v_15 h0u16 =>
       nat_Bench_Mul v_15 x0 y h0u16 fun v_16 h0u17 =>
       ref01uMul v_3 v_4 h0u17 fun v_17 h0u18 =>
       law01utold v_15 n v_16 v_17 h0u18 fun v_18 h0u19 =>
       iteB (!v_18) (
        Q false h0u19
       ) (
        nat_New limbs h0u19 fun v_19 h0u20 =>
        nat_Bench_Gcd v_19 x0 y h0u20 fun v_20 h0u21 =>
        ref01uGcd v_3 v_4 h0u21 fun v_21 h0u22 =>
        law01utold v_19 n v_20 v_21 h0u22 fun v_22 h0u23 =>
        iteB (!v_22) (
         Q false h0u23
        ) (
         nat_New limbs h0u23 fun v_23 h0u24 =>
         nat_Bench_Div v_23 x0 y h0u24 fun v_24 h0u25 =>
         ref01uDiv v_3 v_4 h0u25 fun v_25 h0u26 =>
         seq (fun (K0u1 : Bool → Heap → Prop) =>
          ref01uLimbs v_25.1 h0u26 fun v_26 h0u28 =>
          iteB (decide (((v_26.len : Nat) : Int) > n)) (
           K0u1 true h0u28
          ) (
           ref01uLimbs v_25.2 h0u28 fun v_27 h0u29 =>
           K0u1 (decide (((v_27.len : Nat) : Int) > n)) h0u29
          )
         ) (fun t0u1 h0u27 =>
          iteB t0u1 (
           seq (fun (K0u2 : Bool → Heap → Prop) =>
            nat_Bench_Over v_23 h0u27 fun v_28 h0u31 =>
            iteB v_28 (
             iteB (((v_24.1.len : Nat) : Int) == 0) (
              K0u2 (((v_24.2.len : Nat) : Int) == 0) h0u31
             ) (
              K0u2 false h0u31
             )
            ) (
             K0u2 false h0u31
            )
           ) (fun t0u2 h0u30 =>
            Q t0u2 h0u30
           )
          ) (
           seq (fun (K0u3 : Bool → Heap → Prop) =>
            law01utold v_23 n v_24.1 v_25.1 h0u27 fun v_29 h0u33 =>
            iteB v_29 (
             law01utold v_23 n v_24.2 v_25.2 h0u33 fun v_30 h0u34 =>
             iteB v_30 (
              nat_Cmp x0 y h0u34 fun v_31 h0u35 =>
              ref01uCmp v_3 v_4 h0u35 fun v_32 h0u36 =>
              iteB (v_31 == v_32) (
               nat_Text x0 h0u36 fun v_33 h0u37 =>
               ref01uText v_3 h0u37 fun v_34 h0u38 =>
               K0u3 (v_33.toList == v_34.toList) h0u38
              ) (
               K0u3 false h0u36
              )
             ) (
              K0u3 false h0u34
             )
            ) (
             K0u3 false h0u33
            )
           ) (fun t0u3 h0u32 =>
            Q t0u3 h0u32
           )
          )
         )
        )
       )
      )
     )
    )
   )
  )

def nat_Bench_Parse (b : (Option Addr)) (s0 : ByteArray) (h : Heap) (Q : (Sl × Bool) → Heap → Prop) : Prop :=
  seq (fun (K0 : Bool → Heap → Prop) =>
   iteB (((s0.size : Nat) : Int) == 0) (
    K0 true h
   ) (
    K0 (decide (((s0.size : Nat) : Int) > 10000)) h
   )
  ) (fun t0 h0 =>
   iteB t0 (
    Q (Sl.nil, false) h0
   ) (
    loop (fun (s0u1 : Int) h0u1 (K0u1 : Int → Heap → Prop) =>
     iteB (decide (s0u1 < ((s0.size : Nat) : Int))) (
      seq (fun (K0u2 : Bool → Heap → Prop) =>
       idxStr s0 s0u1 fun v =>
       iteB (decide (v < 48)) (
        K0u2 true h0u1
       ) (
        idxStr s0 s0u1 fun v_1 =>
        K0u2 (decide (v_1 > 57)) h0u1
       )
      ) (fun t0u1 h0u2 =>
       iteB t0u1 (
        Q (Sl.nil, false) h0u2
       ) (
        K0u1 (IntKind.wrap .i64 (s0u1 + 1)) h0u2
       )
      )
     ) (
      loop (fun (s0u2 : Sl × Int) h0u3 (K0u3 : (Sl × Int) → Heap → Prop) =>
       iteB (decide (s0u2.2 < ((s0.size : Nat) : Int))) (
        seq (fun (K0u4 : Sl → Heap → Prop) =>
         idxStr s0 s0u2.2 fun v_2 =>
         (
          new [Value.int .u32 10] h0u3 fun a h0u5 =>
          (
           nat_Bench_Mul b s0u2.1 (⟨some a, 1, 1⟩ : Sl) h0u5 fun v_4 h0u6 =>
           new [Value.int .u32 (IntKind.wrap .u32 (IntKind.wrap .u8 (v_2 - 48)))] h0u6 fun a_1 h0u7 =>
           nat_Bench_Add b v_4 (⟨some a_1, 1, 1⟩ : Sl) h0u7 fun v_6 h0u8 =>
           K0u4 v_6 h0u8
          ) ∧ (
           new [Value.int .u32 (IntKind.wrap .u32 (IntKind.wrap .u8 (v_2 - 48)))] h0u5 fun a_2 h0u9 =>
           nat_Bench_Mul b s0u2.1 (⟨some a, 1, 1⟩ : Sl) h0u9 fun v_8 h0u10 =>
           nat_Bench_Add b v_8 (⟨some a_2, 1, 1⟩ : Sl) h0u10 fun v_9 h0u11 =>
           K0u4 v_9 h0u11
          )
         ) ∧ (
          new [Value.int .u32 (IntKind.wrap .u32 (IntKind.wrap .u8 (v_2 - 48)))] h0u3 fun a_3 h0u12 =>
          new [Value.int .u32 10] h0u12 fun a_4 h0u13 =>
          nat_Bench_Mul b s0u2.1 (⟨some a_4, 1, 1⟩ : Sl) h0u13 fun v_12 h0u14 =>
          nat_Bench_Add b v_12 (⟨some a_3, 1, 1⟩ : Sl) h0u14 fun v_13 h0u15 =>
          K0u4 v_13 h0u15
         )
        ) (fun t0u2 h0u4 =>
         nilChk b fun a_5 =>
         Lift.load Value.bool (a_5.add 1) h0u4 fun v_14 =>
         iteB v_14 (
          Q (Sl.nil, false) h0u4
         ) (
          K0u3 (t0u2, IntKind.wrap .i64 (s0u2.2 + 1)) h0u4
         )
        )
       ) (
        nilChk b fun a_6 =>
        Lift.load Value.bool (a_6.add 1) h0u3 fun v_15 =>
        Q (s0u2.1, (!v_15)) h0u3
       )
      ) (Sl.nil, 0) h0u1
     )
    ) 0 h0
   )
  )

def law01uNatOver (x0 : Sl) (y : Sl) (s0 : ByteArray) (h : Heap) (Q : Bool → Heap → Prop) : Prop :=
  law01uspeaks h fun v h0 =>
  iteB (!v) (
   Q false h0
  ) (
   seq (fun (K0 : Bool → Heap → Prop) =>
    new [Sl.toV x0, Sl.toV y] h0 fun a h0u2 =>
    law01ugreat (⟨some a, 2, 2⟩ : Sl) h0u2 fun v_2 h0u3 =>
    iteB v_2 (
     K0 true h0u3
    ) (
     K0 (decide (((s0.size : Nat) : Int) > 100)) h0u3
    )
   ) (fun t0 h0u1 =>
    iteB t0 (
     Q true h0u1
    ) (
     nat_New 1 h0u1 fun v_3 h0u4 =>
     new [Value.int .u32 0, Value.int .u32 1] h0u4 fun a_1 h0u5 =>
     new [Value.int .u32 5] h0u5 fun a_2 h0u6 =>
     nat_Bench_Mul v_3 (⟨some a_1, 2, 2⟩ : Sl) (⟨some a_2, 1, 1⟩ : Sl) h0u6 fun v_6 h0u7 =>
     nat_Bench_Div v_3 x0 y h0u7 fun v_7 h0u8 =>
     nat_Bench_Parse v_3 s0 h0u8 fun v_8 h0u9 =>
     seq (fun (K0u1 : Bool → Heap → Prop) =>
      nat_Bench_Over v_3 h0u9 fun v_9 h0u11 =>
      iteB v_9 (
       nat_Bench_Add v_3 x0 y h0u11 fun v_10 h0u12 =>
       iteB (((v_10.len : Nat) : Int) == 0) (
        nat_Bench_Sub v_3 x0 y h0u12 fun v_11 h0u13 =>
        iteB (((v_11.len : Nat) : Int) == 0) (
         nat_Bench_Mul v_3 x0 y h0u13 fun v_12 h0u14 =>
         iteB (((v_12.len : Nat) : Int) == 0) (
          nat_Bench_Gcd v_3 x0 y h0u14 fun v_13 h0u15 =>
          iteB (((v_13.len : Nat) : Int) == 0) (
           iteB (((v_7.1.len : Nat) : Int) == 0) (
            iteB (((v_7.2.len : Nat) : Int) == 0) (
             iteB (((v_8.1.len : Nat) : Int) == 0) (
              iteB (!v_8.2) (
               nat_Bench_Over v_3 h0u15 fun v_14 h0u16 =>
               K0u1 v_14 h0u16
              ) (
               K0u1 false h0u15
              )
             ) (
              K0u1 false h0u15
             )
            ) (
             K0u1 false h0u15
            )
           ) (
            K0u1 false h0u15
           )
          ) (
           K0u1 false h0u15
          )
         ) (
          K0u1 false h0u14
         )
        ) (
         K0u1 false h0u13
        )
       ) (
        K0u1 false h0u12
       )
      ) (
       K0u1 false h0u11
      )
     ) (fun t0u1 h0u10 =>
      Q t0u1 h0u10
     )
    )
   )
  )

def law01uNatRules (x0 : Sl) (y : Sl) (z : Sl) (h : Heap) (Q : Bool → Heap → Prop) : Prop :=
  law01uspeaks h fun v h0 =>
  iteB (!v) (
   Q false h0
  ) (
   new [Sl.toV x0, Sl.toV y, Sl.toV z] h0 fun a h0u1 =>
   law01ugreat (⟨some a, 3, 3⟩ : Sl) h0u1 fun v_2 h0u2 =>
   iteB v_2 (
    Q true h0u2
   ) (
    nat_New 100 h0u2 fun v_3 h0u3 =>
    seq (fun (K0 : Bool → Heap → Prop) =>
     nat_Bench_Add v_3 x0 y h0u3 fun v_4 h0u5 =>
     nat_Bench_Add v_3 y x0 h0u5 fun v_5 h0u6 =>
     ref01uSame v_4 v_5 h0u6 fun v_6 h0u7 =>
     iteB (!v_6) (
      K0 true h0u7
     ) (
      nat_Bench_Mul v_3 x0 y h0u7 fun v_7 h0u8 =>
      nat_Bench_Mul v_3 y x0 h0u8 fun v_8 h0u9 =>
      ref01uSame v_7 v_8 h0u9 fun v_9 h0u10 =>
      iteB (!v_9) (
       K0 true h0u10
      ) (
       nat_Bench_Add v_3 y z h0u10 fun v_10 h0u11 =>
       nat_Bench_Mul v_3 x0 v_10 h0u11 fun v_11 h0u12 =>
       nat_Bench_Mul v_3 x0 y h0u12 fun v_12 h0u13 =>
       nat_Bench_Mul v_3 x0 z h0u13 fun v_13 h0u14 =>
       nat_Bench_Add v_3 v_12 v_13 h0u14 fun v_14 h0u15 =>
       ref01uSame v_11 v_14 h0u15 fun v_15 h0u16 =>
       iteB (!v_15) (
        K0 true h0u16
       ) (
        nat_Bench_Add v_3 x0 y h0u16 fun v_16 h0u17 =>
        nat_Bench_Sub v_3 v_16 y h0u17 fun v_17 h0u18 =>
        nat_Bench_Add v_3 x0 Sl.nil h0u18 fun v_18 h0u19 =>
        ref01uSame v_17 v_18 h0u19 fun v_19 h0u20 =>
        K0 (!v_19) h0u20
       )
      )
     )
    ) (fun t0 h0u4 =>
     iteB t0 (
      Q false h0u4
     ) (
      ref01uOf y h0u4 fun v_20 h0u21 =>
      iteB (((v_20.len : Nat) : Int) == 0) (
       nat_Bench_Gcd v_3 x0 y h0u21 fun v_21 h0u22 =>
       nat_Bench_Add v_3 x0 Sl.nil h0u22 fun v_22 h0u23 =>
       ref01uSame v_21 v_22 h0u23 fun v_23 h0u24 =>
       Q v_23 h0u24
      ) (
       nat_Bench_Div v_3 x0 y h0u21 fun v_24 h0u25 =>
       nat_Bench_Gcd v_3 x0 y h0u25 fun v_25 h0u26 =>
       nat_Bench_Div v_3 x0 v_25 h0u26 fun v_26 h0u27 =>
       nat_Bench_Div v_3 y v_25 h0u27 fun v_27 h0u28 =>
       seq (fun (K0u1 : Bool → Heap → Prop) =>
        nat_Cmp v_24.2 y h0u28 fun v_28 h0u30 =>
        iteB (decide (v_28 < 0)) (
         nat_Bench_Mul v_3 v_24.1 y h0u30 fun v_29 h0u31 =>
         nat_Bench_Add v_3 v_29 v_24.2 h0u31 fun v_30 h0u32 =>
         nat_Bench_Add v_3 x0 Sl.nil h0u32 fun v_31 h0u33 =>
         ref01uSame v_30 v_31 h0u33 fun v_32 h0u34 =>
         iteB v_32 (
          iteB (((v_26.2.len : Nat) : Int) == 0) (
           iteB (((v_27.2.len : Nat) : Int) == 0) (
            nat_Bench_Over v_3 h0u34 fun v_33 h0u35 =>
            K0u1 (!v_33) h0u35
           ) (
            K0u1 false h0u34
           )
          ) (
           K0u1 false h0u34
          )
         ) (
          K0u1 false h0u34
         )
        ) (
         K0u1 false h0u30
        )
       ) (fun t0u1 h0u29 =>
        Q t0u1 h0u29
       )
      )
     )
    )
   )
  )
end Go.Sh

/-
  The functions, as they are seen: printed by lift.py.
-/
import Derived.Test.YtjppcjbmepcneaaDoorFwM
set_option linter.unusedVariables false
set_option linter.unusedSimpArgs false
namespace Go.Sh
open Go Go.Lift

def C_bool_sl (x : Bool × Sl) : List Value := [Value.bool x.1, Sl.toV x.2]
def C_bool_sl_sl (x : Bool × Sl × Sl) : List Value := [Value.bool x.1, Sl.toV x.2.1, Sl.toV x.2.2]
def C_bool_sl_sl_sl (x : Bool × Sl × Sl × Sl) : List Value := [Value.bool x.1, Sl.toV x.2.1, Sl.toV x.2.2.1, Sl.toV x.2.2.2]
def C_i64ubool_sl_sl (x : Int × Bool × Sl × Sl) : List Value := [Value.int .i64 x.1, Value.bool x.2.1, Sl.toV x.2.2.1, Sl.toV x.2.2.2]
/-- Where a variable of a package lies. -/
abbrev g_math_bits_deBruijn32tab : Nat := 0

def nat_New (limbs : Int) (h : Heap) (Q : ((Option Addr)) → Heap → Prop) : Prop :=
  new [Value.int .i64 (if 1 > limbs then 1 else limbs), Value.bool false] h fun a h0 =>
  Q (some a) h0

def nat_trim (x0 : Sl) (h : Heap) (Q : Sl → Heap → Prop) : Prop :=
  loop (fun (s0 : Sl) h0 (K0 : Sl → Heap → Prop) =>
   seq (fun (K0u1 : Bool → Heap → Prop) =>
    iteB (decide (((s0.len : Nat) : Int) > 0)) (
     idxS s0 (IntKind.wrap .i64 (((s0.len : Nat) : Int) - 1)) 1 fun a =>
     Lift.load (Value.int .u32) a h0 fun v =>
     K0u1 (v == 0) h0
    ) (
     K0u1 false h0
    )
   ) (fun t0 h0u1 =>
    iteB t0 (
     sliceOf s0 none (some (IntKind.wrap .i64 (((s0.len : Nat) : Int) - 1))) none 1 fun v_1 =>
     K0 v_1 h0u1
    ) (
     Q s0 h0u1
    )
   )
  ) x0 h

def nat_Of (n : Int) (h : Heap) (Q : Sl → Heap → Prop) : Prop :=
  new [Value.int .u32 (IntKind.wrap .u32 n), Value.int .u32 (IntKind.wrap .u32 (Int.fdiv n (2 ^ (min (Int.toNat 32) (IntKind.bits .u64)))))] h fun a h0 =>
  nat_trim (⟨some a, 2, 2⟩ : Sl) h0 fun v_1 h0u1 =>
  Q v_1 h0u1

def ratio_Of (n : Int) (h : Heap) (Q : (Bool × Sl × Sl) → Heap → Prop) : Prop :=
  mem h fun h0 =>
  Let (IntKind.wrap .u64 n : Int) fun size =>
  seq (fun (K0 : Int → Heap → Prop) =>
   iteB (decide (n < 0)) (
    Let (IntKind.wrap .u64 (0 - size) : Int) fun size_1 =>
    K0 size_1 h0
   ) (
    K0 size h0
   )
  ) (fun t0 h0u1 =>
   nat_Of t0 h0u1 fun v h0u2 =>
   Q (decide (n < 0), v, Sl.nil) h0u2
  )

def linear_Of (v : Int) (h : Heap) (Q : (Bool × Sl × Sl × Sl) → Heap → Prop) : Prop :=
  mem h fun h0 =>
  ratio_Of 1 h0 fun v_1 h0u1 =>
  new [Value.int .i64 v, Value.bool v_1.1, Sl.toV v_1.2.1, Sl.toV v_1.2.2] h0u1 fun a h0u2 =>
  Q (false, Sl.nil, Sl.nil, (⟨some a, 1, 1⟩ : Sl)) h0u2

def ratio_Sign (x0 : Bool × Sl × Sl) (h : Heap) (Q : Int → Heap → Prop) : Prop :=
  mem h fun h0 =>
  iteB (((x0.2.1.len : Nat) : Int) == 0) (
   Q 0 h0
  ) (
   iteB x0.1 (
    Q (-1) h0
   ) (
    Q 1 h0
   )
  )

def ratio_free (h : Heap) (Q : ((Option Addr)) → Heap → Prop) : Prop :=
  nat_New 16777216 h fun v h0 =>
  Q v h0

def nat_times (x0 : Sl) (y : Sl) (h : Heap) (Q : Sl → Heap → Prop) : Prop :=
  Let (IntKind.wrap .i64 (((x0.len : Nat) : Int) + ((y.len : Nat) : Int)) : Int) fun t15 =>
  mkS [Value.int .u32 0] 4 t15 t15 h fun v h0 =>
  loop (fun (s0 : Int) h0u1 (K0 : Int → Heap → Prop) =>
   iteB (decide (s0 < ((x0.len : Nat) : Int))) (
    idxS x0 s0 1 fun a =>
    Lift.load (Value.int .u32) a h0u1 fun v_1 =>
    loop (fun (s0u1 : Int × Int) h0u2 (K0u1 : (Int × Int) → Heap → Prop) =>
     iteB (decide (s0u1.2 < ((y.len : Nat) : Int))) (
      idxS y s0u1.2 1 fun a_1 =>
      Lift.load (Value.int .u32) a_1 h0u2 fun v_2 =>
      idxS v (IntKind.wrap .i64 (s0 + s0u1.2)) 1 fun a_2 =>
      Lift.load (Value.int .u32) a_2 h0u2 fun v_3 =>
      Let (IntKind.wrap .u64 (s0u1.1 + (IntKind.wrap .u64 ((IntKind.wrap .u64 ((IntKind.wrap .u64 v_1) * (IntKind.wrap .u64 v_2))) + (IntKind.wrap .u64 v_3)))) : Int) fun carry =>
      idxS v (IntKind.wrap .i64 (s0 + s0u1.2)) 1 fun a_3 =>
      Lift.store a_3 (Value.int .u32 (IntKind.wrap .u32 carry)) h0u2 fun h0u3 =>
      Let (Int.fdiv carry (2 ^ (min (Int.toNat 32) (IntKind.bits .u64))) : Int) fun carry_1 =>
      K0u1 (carry_1, IntKind.wrap .i64 (s0u1.2 + 1)) h0u3
     ) (
      idxS v (IntKind.wrap .i64 (s0 + ((y.len : Nat) : Int))) 1 fun a_4 =>
      Lift.store a_4 (Value.int .u32 (IntKind.wrap .u32 s0u1.1)) h0u2 fun h0u4 =>
      K0 (IntKind.wrap .i64 (s0 + 1)) h0u4
     )
    ) (0, 0) h0u1
   ) (
    Q v h0u1
   )
  ) 0 h0

def slices_Clone_api_Nat_uint32 (s0 : Sl) (h : Heap) (Q : Sl → Heap → Prop) : Prop :=
  iteB s0.a.isNone (
   Q Sl.nil h
  ) (
   new [] h fun a h0 =>
   appendS 1 4 (⟨some a, 0, 0⟩ : Sl) s0 h0 fun v_1 h0u1 =>
   Q v_1 h0u1
  )

def nat_Bench_fit (b : (Option Addr)) (x0 : Sl) (h : Heap) (Q : Sl → Heap → Prop) : Prop :=
  nat_trim x0 h fun v h0 =>
  seq (fun (K0 : Unit → Heap → Prop) =>
   nilChk b fun a =>
   Lift.load Value.bool (a.add 1) h0 fun v_1 =>
   iteB v_1 (
    nilChk b fun a_1 =>
    Lift.store (a_1.add 1) (Value.bool true) h0 fun h0u2 =>
    K0 () h0u2
   ) (
    nilChk b fun a_2 =>
    Lift.load (Value.int .i64) (a_2.add 0) h0 fun v_2 =>
    nilChk b fun a_3 =>
    Lift.store (a_3.add 1) (Value.bool (decide (((v.len : Nat) : Int) > v_2))) h0 fun h0u3 =>
    K0 () h0u3
   )
  ) (fun t0 h0u1 =>
   nilChk b fun a_4 =>
   Lift.load Value.bool (a_4.add 1) h0u1 fun v_3 =>
   iteB v_3 (
    Q Sl.nil h0u1
   ) (
    slices_Clone_api_Nat_uint32 v h0u1 fun v_4 h0u4 =>
    Q v_4 h0u4
   )
  )

def nat_Bench_Mul (b : (Option Addr)) (x0 : Sl) (y : Sl) (h : Heap) (Q : Sl → Heap → Prop) : Prop :=
  nat_trim x0 h fun v h0 =>
  nat_trim y h0 fun v_1 h0u1 =>
  nat_times v v_1 h0u1 fun v_2 h0u2 =>
  nat_Bench_fit b v_2 h0u2 fun v_3 h0u3 =>
  Q v_3 h0u3

def ratio_one (h : Heap) (Q : Sl → Heap → Prop) : Prop :=
  new [Value.int .u32 1] h fun a h0 =>
  Q (⟨some a, 1, 1⟩ : Sl) h0

def ratio_den (x0 : Bool × Sl × Sl) (h : Heap) (Q : Sl → Heap → Prop) : Prop :=
  mem h fun h0 =>
  iteB (((x0.2.2.len : Nat) : Int) == 0) (
   ratio_one h0 fun v h0u1 =>
   Q v h0u1
  ) (
   Q x0.2.2 h0
  )

def nat_small (x0 : Sl) (h : Heap) (Q : (Int × Bool) → Heap → Prop) : Prop :=
  nat_trim x0 h fun v h0 =>
  Let (IntKind.wrap .i64 (((v.len : Nat) : Int) - 1) : Int) fun i =>
  loop (fun (s0 : Int × Int) h0u1 (K0 : (Int × Int) → Heap → Prop) =>
   iteB (decide (s0.2 ≥ 0)) (
    idxS v s0.2 1 fun a =>
    Lift.load (Value.int .u32) a h0u1 fun v_1 =>
    Let (IntKind.wrap .u64 (((BitVec.ofInt (IntKind.bits .u64) (IntKind.wrap .u64 (s0.1 * 2 ^ (min (Int.toNat 32) (IntKind.bits .u64)))) ||| BitVec.ofInt (IntKind.bits .u64) (IntKind.wrap .u64 v_1)).toNat : Int)) : Int) fun n =>
    Let (IntKind.wrap .i64 (s0.2 - 1) : Int) fun i_1 =>
    K0 (n, i_1) h0u1
   ) (
    Let (decide (((v.len : Nat) : Int) ≤ 2) : Bool) fun ok =>
    Q (s0.1, ok) h0u1
   )
  ) (0, i) h0

def math_bits_TrailingZeros32 (x0 : Int) (h : Heap) (Q : Int → Heap → Prop) : Prop :=
  iteB (x0 == 0) (
   Q 32 h
  ) (
   ((0 : Int) ≤ ((Int.fdiv (IntKind.wrap .u32 ((IntKind.wrap .u32 (((BitVec.ofInt (IntKind.bits .u32) x0 &&& BitVec.ofInt (IntKind.bits .u32) (IntKind.wrap .u32 (0 - x0))).toNat : Int))) * 125613361)) (2 ^ (min (Int.toNat 27) (IntKind.bits .u32)))) : Int) ∧ ((Int.fdiv (IntKind.wrap .u32 ((IntKind.wrap .u32 (((BitVec.ofInt (IntKind.bits .u32) x0 &&& BitVec.ofInt (IntKind.bits .u32) (IntKind.wrap .u32 (0 - x0))).toNat : Int))) * 125613361)) (2 ^ (min (Int.toNat 27) (IntKind.bits .u32)))) : Int) < 32) ∧
   Lift.load (Value.int .u8) ((⟨g_math_bits_deBruijn32tab, 0, none⟩ : Addr).add (Int.toNat (Int.fdiv (IntKind.wrap .u32 ((IntKind.wrap .u32 (((BitVec.ofInt (IntKind.bits .u32) x0 &&& BitVec.ofInt (IntKind.bits .u32) (IntKind.wrap .u32 (0 - x0))).toNat : Int))) * 125613361)) (2 ^ (min (Int.toNat 27) (IntKind.bits .u32)))) * 1)) h fun v =>
   Q (IntKind.wrap .i64 v) h
  )

def nat_halve (x0 : Sl) (h : Heap) (Q : (Sl × Int) → Heap → Prop) : Prop :=
  loop (fun (s0 : Int) h0 (K0 : Int → Heap → Prop) =>
   idxS x0 (IntKind.wrap .i64 (Int.tdiv s0 32)) 1 fun a =>
   Lift.load (Value.int .u32) a h0 fun v =>
   iteB (v == 0) (
    Let (IntKind.wrap .i64 (s0 + 32) : Int) fun k =>
    K0 k h0
   ) (
    idxS x0 (IntKind.wrap .i64 (Int.tdiv s0 32)) 1 fun a_1 =>
    Lift.load (Value.int .u32) a_1 h0 fun v_1 =>
    math_bits_TrailingZeros32 v_1 h0 fun v_2 h0u1 =>
    Let (IntKind.wrap .i64 (s0 + v_2) : Int) fun k_1 =>
    sliceOf x0 (some (IntKind.wrap .i64 (Int.tdiv k_1 32))) none none 1 fun v_3 =>
    slices_Clone_api_Nat_uint32 v_3 h0u1 fun v_4 h0u2 =>
    seq (fun (K0u1 : Unit → Heap → Prop) =>
     Let (Int.tmod k_1 32 : Int) fun s0u1 =>
     iteB (decide (s0u1 > 0)) (
      loop (fun (s0u2 : Int) h0u4 (K0u2 : Int → Heap → Prop) =>
       iteB (decide (s0u2 < ((v_4.len : Nat) : Int))) (
        seq (fun (K0u3 : Unit → Heap → Prop) =>
         idxS v_4 s0u2 1 fun a_2 =>
         Lift.load (Value.int .u32) a_2 h0u4 fun v_5 =>
         (0 ≤ s0u1) ∧
         idxS v_4 s0u2 1 fun a_3 =>
         Lift.store a_3 (Value.int .u32 (Int.fdiv v_5 (2 ^ (min (Int.toNat s0u1) (IntKind.bits .u32))))) h0u4 fun h0u6 =>
         iteB (decide ((IntKind.wrap .i64 (s0u2 + 1)) < ((v_4.len : Nat) : Int))) (
          idxS v_4 s0u2 1 fun a_4 =>
          Lift.load (Value.int .u32) a_4 h0u6 fun v_6 =>
          idxS v_4 (IntKind.wrap .i64 (s0u2 + 1)) 1 fun a_5 =>
          Lift.load (Value.int .u32) a_5 h0u6 fun v_7 =>
          (0 ≤ (IntKind.wrap .i64 (32 - s0u1))) ∧
          idxS v_4 s0u2 1 fun a_6 =>
          Lift.store a_6 (Value.int .u32 (IntKind.wrap .u32 (((BitVec.ofInt (IntKind.bits .u32) v_6 ||| BitVec.ofInt (IntKind.bits .u32) (IntKind.wrap .u32 (v_7 * 2 ^ (min (Int.toNat (IntKind.wrap .i64 (32 - s0u1))) (IntKind.bits .u32))))).toNat : Int)))) h0u6 fun h0u7 =>
          K0u3 () h0u7
         ) (
          K0u3 () h0u6
         )
        ) (fun t0u1 h0u5 =>
         K0u2 (IntKind.wrap .i64 (s0u2 + 1)) h0u5
        )
       ) (
        K0u1 () h0u4
       )
      ) 0 h0u2
     ) (
      K0u1 () h0u2
     )
    ) (fun t0 h0u3 =>
     nat_trim v_4 h0u3 fun v_8 h0u8 =>
     Q (v_8, k_1) h0u8
    )
   )
  ) 0 h

def nat_sign (n : Int) (h : Heap) (Q : Int → Heap → Prop) : Prop :=
  Q (if (-1) > (if 1 < n then 1 else n) then (-1) else (if 1 < n then 1 else n)) h

def nat_Cmp (x0 : Sl) (y : Sl) (h : Heap) (Q : Int → Heap → Prop) : Prop :=
  nat_trim x0 h fun v h0 =>
  nat_trim y h0 fun v_1 h0u1 =>
  iteB (((v.len : Nat) : Int) != ((v_1.len : Nat) : Int)) (
   nat_sign (IntKind.wrap .i64 (((v.len : Nat) : Int) - ((v_1.len : Nat) : Int))) h0u1 fun v_2 h0u2 =>
   Q v_2 h0u2
  ) (
   Let (IntKind.wrap .i64 (((v.len : Nat) : Int) - 1) : Int) fun i =>
   loop (fun (s0 : Int) h0u3 (K0 : Int → Heap → Prop) =>
    iteB (decide (s0 ≥ 0)) (
     idxS v s0 1 fun a =>
     Lift.load (Value.int .u32) a h0u3 fun v_3 =>
     idxS v_1 s0 1 fun a_1 =>
     Lift.load (Value.int .u32) a_1 h0u3 fun v_4 =>
     iteB (v_3 != v_4) (
      idxS v s0 1 fun a_2 =>
      Lift.load (Value.int .u32) a_2 h0u3 fun v_5 =>
      idxS v_1 s0 1 fun a_3 =>
      Lift.load (Value.int .u32) a_3 h0u3 fun v_6 =>
      nat_sign (IntKind.wrap .i64 ((IntKind.wrap .i64 v_5) - (IntKind.wrap .i64 v_6))) h0u3 fun v_7 h0u4 =>
      Q v_7 h0u4
     ) (
      Let (IntKind.wrap .i64 (s0 - 1) : Int) fun i_1 =>
      K0 i_1 h0u3
     )
    ) (
     Q 0 h0u3
    )
   ) i h0u1
  )

def nat_minus (x0 : Sl) (y : Sl) (h : Heap) (Q : Sl → Heap → Prop) : Prop :=
  loop (fun (s0 : Sl × Int × Int) h0 (K0 : (Sl × Int × Int) → Heap → Prop) =>
   iteB (decide (s0.2.2 < ((x0.len : Nat) : Int))) (
    idxS x0 s0.2.2 1 fun a =>
    Lift.load (Value.int .u32) a h0 fun v =>
    Let (IntKind.wrap .u64 ((IntKind.wrap .u64 v) - s0.2.1) : Int) fun d =>
    seq (fun (K0u1 : Int → Heap → Prop) =>
     iteB (decide (s0.2.2 < ((y.len : Nat) : Int))) (
      idxS y s0.2.2 1 fun a_1 =>
      Lift.load (Value.int .u32) a_1 h0 fun v_1 =>
      Let (IntKind.wrap .u64 (d - (IntKind.wrap .u64 v_1)) : Int) fun d_1 =>
      K0u1 d_1 h0
     ) (
      K0u1 d h0
     )
    ) (fun t0 h0u1 =>
     new [Value.int .u32 (IntKind.wrap .u32 t0)] h0u1 fun a_2 h0u2 =>
     appendS 1 4 s0.1 (⟨some a_2, 1, 1⟩ : Sl) h0u2 fun v_3 h0u3 =>
     Let (Int.fdiv t0 (2 ^ (min (Int.toNat 63) (IntKind.bits .u64))) : Int) fun borrow =>
     K0 (v_3, borrow, IntKind.wrap .i64 (s0.2.2 + 1)) h0u3
    )
   ) (
    nat_trim s0.1 h0 fun v_4 h0u4 =>
    Q v_4 h0u4
   )
  ) (Sl.nil, 0, 0) h

def nat_double (x0 : Sl) (k : Int) (h : Heap) (Q : Sl → Heap → Prop) : Prop :=
  Let (IntKind.wrap .i64 ((IntKind.wrap .i64 (Int.tdiv k 32)) + 1) : Int) fun t8 =>
  mkS [Value.int .u32 0] 4 t8 t8 h fun v h0 =>
  (0 ≤ (Int.tmod k 32)) ∧
  idxS v (IntKind.wrap .i64 (Int.tdiv k 32)) 1 fun a =>
  Lift.store a (Value.int .u32 (IntKind.wrap .u32 (1 * 2 ^ (min (Int.toNat (Int.tmod k 32)) (IntKind.bits .u32))))) h0 fun h0u1 =>
  nat_times x0 v h0u1 fun v_1 h0u2 =>
  nat_trim v_1 h0u2 fun v_2 h0u3 =>
  Q v_2 h0u3

def nat_common (x0 : Sl) (y : Sl) (h : Heap) (Q : Sl → Heap → Prop) : Prop :=
  nat_trim x0 h fun v h0 =>
  nat_trim y h0 fun v_1 h0u1 =>
  iteB (((v.len : Nat) : Int) == 0) (
   Q v_1 h0u1
  ) (
   iteB (((v_1.len : Nat) : Int) == 0) (
    Q v h0u1
   ) (
    seq (fun (K0 : Unit → Heap → Prop) =>
     nat_small v h0u1 fun v_2 h0u3 =>
     iteB v_2.2 (
      nat_small v_1 h0u3 fun v_3 h0u4 =>
      iteB v_3.2 (
       loop (fun (s0 : Int × Int) h0u5 (K0u1 : (Int × Int) → Heap → Prop) =>
        iteB (s0.2 != 0) (
         (s0.2 ≠ 0) ∧
         Let (Int.tmod s0.1 s0.2 : Int) fun m0 =>
         K0u1 (s0.2, m0) h0u5
        ) (
         nat_Of s0.1 h0u5 fun v_4 h0u6 =>
         Q v_4 h0u6
        )
       ) (v_2.1, v_3.1) h0u4
      ) (
       K0 () h0u4
      )
     ) (
      K0 () h0u3
     )
    ) (fun t0 h0u2 =>
     nat_halve v h0u2 fun v_5 h0u7 =>
     nat_halve v_1 h0u7 fun v_6 h0u8 =>
     loop (fun (s0u1 : Sl × Sl) h0u9 (K0u2 : (Sl × Sl) → Heap → Prop) =>
      nat_Cmp s0u1.1 s0u1.2 h0u9 fun v_7 h0u10 =>
      iteB (v_7 != 0) (
       seq (fun (K0u3 : (Sl × Sl) → Heap → Prop) =>
        nat_Cmp s0u1.1 s0u1.2 h0u10 fun v_8 h0u12 =>
        iteB (decide (v_8 < 0)) (
         K0u3 (s0u1.2, s0u1.1) h0u12
        ) (
         K0u3 (s0u1.1, s0u1.2) h0u12
        )
       ) (fun t0u1 h0u11 =>
        nat_minus t0u1.1 t0u1.2 h0u11 fun v_9 h0u13 =>
        nat_halve v_9 h0u13 fun v_10 h0u14 =>
        K0u2 (v_10.1, t0u1.2) h0u14
       )
      ) (
       nat_double s0u1.1 (if v_6.2 < v_5.2 then v_6.2 else v_5.2) h0u10 fun v_11 h0u15 =>
       Q v_11 h0u15
      )
     ) (v_5.1, v_6.1) h0u8
    )
   )
  )

def nat_Bench_Gcd (b : (Option Addr)) (x0 : Sl) (y : Sl) (h : Heap) (Q : Sl → Heap → Prop) : Prop :=
  nat_common x0 y h fun v h0 =>
  nat_Bench_fit b v h0 fun v_1 h0u1 =>
  Q v_1 h0u1

def nat_plus (x0 : Sl) (y : Sl) (h : Heap) (Q : Sl → Heap → Prop) : Prop :=
  loop (fun (s0 : Sl × Int × Int) h0 (K0 : (Sl × Int × Int) → Heap → Prop) =>
   iteB (decide (s0.2.2 < (if ((y.len : Nat) : Int) > ((x0.len : Nat) : Int) then ((y.len : Nat) : Int) else ((x0.len : Nat) : Int)))) (
    loop (fun (s0u1 : Int × Int) h0u1 (K0u1 : (Int × Int) → Heap → Prop) =>
     iteB (decide (s0u1.2 < 2)) (
      seq (fun (K0u2 : Int → Heap → Prop) =>
       idxV Sl.toV [Sl.toV x0, Sl.toV y] 2 s0u1.2 1 fun v =>
       iteB (decide (s0.2.2 < ((v.len : Nat) : Int))) (
        idxS v s0.2.2 1 fun a =>
        Lift.load (Value.int .u32) a h0u1 fun v_1 =>
        Let (IntKind.wrap .u64 (s0u1.1 + (IntKind.wrap .u64 v_1)) : Int) fun carry =>
        K0u2 carry h0u1
       ) (
        K0u2 s0u1.1 h0u1
       )
      ) (fun t0 h0u2 =>
       K0u1 (t0, IntKind.wrap .i64 (s0u1.2 + 1)) h0u2
      )
     ) (
      new [Value.int .u32 (IntKind.wrap .u32 s0u1.1)] h0u1 fun a_1 h0u3 =>
      appendS 1 4 s0.1 (⟨some a_1, 1, 1⟩ : Sl) h0u3 fun v_3 h0u4 =>
      Let (Int.fdiv s0u1.1 (2 ^ (min (Int.toNat 32) (IntKind.bits .u64))) : Int) fun carry_1 =>
      K0 (v_3, carry_1, IntKind.wrap .i64 (s0.2.2 + 1)) h0u4
     )
    ) (s0.2.1, 0) h0
   ) (
    new [Value.int .u32 (IntKind.wrap .u32 s0.2.1)] h0 fun a_2 h0u5 =>
    appendS 1 4 s0.1 (⟨some a_2, 1, 1⟩ : Sl) h0u5 fun v_5 h0u6 =>
    Q v_5 h0u6
   )
  ) (Sl.nil, 0, 0) h

def nat_bit (x0 : Sl) (at0 : Int) (h : Heap) (Q : Int → Heap → Prop) : Prop :=
  idxS x0 (IntKind.wrap .i64 (Int.tdiv at0 32)) 1 fun a =>
  Lift.load (Value.int .u32) a h fun v =>
  (0 ≤ (Int.tmod at0 32)) ∧
  Q (IntKind.wrap .u32 (((BitVec.ofInt (IntKind.bits .u32) (Int.fdiv v (2 ^ (min (Int.toNat (Int.tmod at0 32)) (IntKind.bits .u32)))) &&& BitVec.ofInt (IntKind.bits .u32) 1).toNat : Int))) h

def nat_divide (x0 : Sl) (y : Sl) (h : Heap) (Q : (Sl × Sl) → Heap → Prop) : Prop :=
  nat_small x0 h fun v h0 =>
  nat_small y h0 fun v_1 h0u1 =>
  seq (fun (K0 : Bool → Heap → Prop) =>
   iteB v.2 (
    K0 v_1.2 h0u1
   ) (
    K0 false h0u1
   )
  ) (fun t0 h0u2 =>
   iteB t0 (
    (v_1.1 ≠ 0) ∧
    (v_1.1 ≠ 0) ∧
    nat_Of (IntKind.wrap .u64 (Int.tdiv v.1 v_1.1)) h0u2 fun v_2 h0u3 =>
    nat_Of (Int.tmod v.1 v_1.1) h0u3 fun v_3 h0u4 =>
    Q (v_2, v_3) h0u4
   ) (
    nat_trim x0 h0u2 fun v_4 h0u5 =>
    nat_trim y h0u5 fun v_5 h0u6 =>
    Let (((v_4.len : Nat) : Int) : Int) fun t38 =>
    mkS [Value.int .u32 0] 4 t38 t38 h0u6 fun v_6 h0u7 =>
    Let (IntKind.wrap .i64 ((IntKind.wrap .i64 (((v_4.len : Nat) : Int) * 32)) - 1) : Int) fun at0 =>
    loop (fun (s0 : Sl × Int) h0u8 (K0u1 : (Sl × Int) → Heap → Prop) =>
     iteB (decide (s0.2 ≥ 0)) (
      seq (fun (K0u2 : Sl → Heap → Prop) =>
       nat_plus s0.1 s0.1 h0u8 fun v_7 h0u10 =>
       idxS v_7 0 1 fun a =>
       Lift.load (Value.int .u32) a h0u10 fun v_8 =>
       nat_bit v_4 s0.2 h0u10 fun v_9 h0u11 =>
       (cell? h0u11 a = some (Value.int .u32 v_8)) ∧
       idxS v_7 0 1 fun a_1 =>
       Lift.store a_1 (Value.int .u32 (IntKind.wrap .u32 (((BitVec.ofInt (IntKind.bits .u32) v_8 ||| BitVec.ofInt (IntKind.bits .u32) v_9).toNat : Int)))) h0u11 fun h0u12 =>
       nat_trim v_7 h0u12 fun v_10 h0u13 =>
       nat_Cmp v_10 v_5 h0u13 fun v_11 h0u14 =>
       iteB (decide (v_11 ≥ 0)) (
        nat_minus v_10 v_5 h0u14 fun v_12 h0u15 =>
        idxS v_6 (IntKind.wrap .i64 (Int.tdiv s0.2 32)) 1 fun a_2 =>
        Lift.load (Value.int .u32) a_2 h0u15 fun v_13 =>
        (0 ≤ (Int.tmod s0.2 32)) ∧
        idxS v_6 (IntKind.wrap .i64 (Int.tdiv s0.2 32)) 1 fun a_3 =>
        Lift.store a_3 (Value.int .u32 (IntKind.wrap .u32 (((BitVec.ofInt (IntKind.bits .u32) v_13 ||| BitVec.ofInt (IntKind.bits .u32) (IntKind.wrap .u32 (1 * 2 ^ (min (Int.toNat (Int.tmod s0.2 32)) (IntKind.bits .u32))))).toNat : Int)))) h0u15 fun h0u16 =>
        K0u2 v_12 h0u16
       ) (
        K0u2 v_10 h0u14
       )
      ) (fun t0u1 h0u9 =>
       Let (IntKind.wrap .i64 (s0.2 - 1) : Int) fun at0u1 =>
       K0u1 (t0u1, at0u1) h0u9
      )
     ) (
      nat_trim v_6 h0u8 fun v_14 h0u17 =>
      Q (v_14, s0.1) h0u17
     )
    ) (Sl.nil, at0) h0u7
   )
  )

def nat_Bench_Div (b : (Option Addr)) (x0 : Sl) (y : Sl) (h : Heap) (Q : (Sl × Sl) → Heap → Prop) : Prop :=
  nat_trim y h fun v h0 =>
  iteB (((v.len : Nat) : Int) == 0) (
   Q (Sl.nil, Sl.nil) h0
  ) (
   nat_divide x0 y h0 fun v_1 h0u1 =>
   nat_Bench_fit b v_1.1 h0u1 fun v_2 h0u2 =>
   nat_Bench_fit b v_1.2 h0u2 fun v_3 h0u3 =>
   nilChk b fun a =>
   Lift.load Value.bool (a.add 1) h0u3 fun v_4 =>
   iteB v_4 (
    Q (Sl.nil, Sl.nil) h0u3
   ) (
    Q (v_2, v_3) h0u3
   )
  )

def slices_Equal_api_Nat_uint32 (s1 : Sl) (s2 : Sl) (h : Heap) (Q : Bool → Heap → Prop) : Prop :=
  iteB (((s1.len : Nat) : Int) != ((s2.len : Nat) : Int)) (
   Q false h
  ) (
   loop (fun (s0 : Int) h0 (K0 : Int → Heap → Prop) =>
    iteB (decide (s0 < ((s1.len : Nat) : Int))) (
     idxS s1 s0 1 fun a =>
     Lift.load (Value.int .u32) a h0 fun v =>
     idxS s2 s0 1 fun a_1 =>
     Lift.load (Value.int .u32) a_1 h0 fun v_1 =>
     iteB (v != v_1) (
      Q false h0
     ) (
      K0 (IntKind.wrap .i64 (s0 + 1)) h0
     )
    ) (
     Q true h0
    )
   ) 0 h
  )

def ratio_isOne (x0 : Sl) (h : Heap) (Q : Bool → Heap → Prop) : Prop :=
  ratio_one h fun v h0 =>
  slices_Equal_api_Nat_uint32 x0 v h0 fun v_1 h0u1 =>
  Q v_1 h0u1

def ratio_form (neg : Bool) (num : Sl) (d : Sl) (h : Heap) (Q : (Bool × Sl × Sl) → Heap → Prop) : Prop :=
  mem h fun h0 =>
  ratio_free h0 fun v h0u1 =>
  nat_Bench_Gcd v num d h0u1 fun v_1 h0u2 =>
  nat_Bench_Div v num v_1 h0u2 fun v_2 h0u3 =>
  nat_Bench_Div v d v_1 h0u3 fun v_3 h0u4 =>
  seq (fun (K0 : Sl → Heap → Prop) =>
   ratio_isOne v_3.1 h0u4 fun v_4 h0u6 =>
   iteB v_4 (
    K0 Sl.nil h0u6
   ) (
    K0 v_3.1 h0u6
   )
  ) (fun t0 h0u5 =>
   iteB (((v_2.1.len : Nat) : Int) == 0) (
    Q (false, Sl.nil, Sl.nil) h0u5
   ) (
    Q (neg, v_2.1, t0) h0u5
   )
  )

def nat_Bench_Add (b : (Option Addr)) (x0 : Sl) (y : Sl) (h : Heap) (Q : Sl → Heap → Prop) : Prop :=
  nat_plus x0 y h fun v h0 =>
  nat_Bench_fit b v h0 fun v_1 h0u1 =>
  Q v_1 h0u1

def nat_Bench_Over (b : (Option Addr)) (h : Heap) (Q : Bool → Heap → Prop) : Prop :=
  nilChk b fun a =>
  Lift.load Value.bool (a.add 1) h fun v =>
  Q v h

def ratio_fit (b : (Option Addr)) (x0 : Bool × Sl × Sl) (h : Heap) (Q : (Bool × Sl × Sl) → Heap → Prop) : Prop :=
  mem h fun h0 =>
  nat_Bench_Add b x0.2.1 Sl.nil h0 fun v h0u1 =>
  nat_Bench_Add b x0.2.2 Sl.nil h0u1 fun v_1 h0u2 =>
  nat_Bench_Over b h0u2 fun v_2 h0u3 =>
  iteB v_2 (
   Q (false, Sl.nil, Sl.nil) h0u3
  ) (
   Q (x0.1, x0.2.1, x0.2.2) h0u3
  )

def ratio_Mul (b : (Option Addr)) (x0 : Bool × Sl × Sl) (y : Bool × Sl × Sl) (h : Heap) (Q : (Bool × Sl × Sl) → Heap → Prop) : Prop :=
  mem h fun h0 =>
  ratio_free h0 fun v h0u1 =>
  nat_Bench_Mul v x0.2.1 y.2.1 h0u1 fun v_1 h0u2 =>
  ratio_den (x0.1, x0.2.1, x0.2.2) h0u2 fun v_2 h0u3 =>
  ratio_den (y.1, y.2.1, y.2.2) h0u3 fun v_3 h0u4 =>
  nat_Bench_Mul v v_2 v_3 h0u4 fun v_4 h0u5 =>
  ratio_form (!(x0.1 == y.1)) v_1 v_4 h0u5 fun v_5 h0u6 =>
  ratio_fit b (v_5.1, v_5.2.1, v_5.2.2) h0u6 fun v_6 h0u7 =>
  Q (v_6.1, v_6.2.1, v_6.2.2) h0u7

def linear_Scale_c1 (x0 : Bool × Sl × Sl) (c0 : Addr) (c1 : Addr) (h : Heap) (Q : (Bool × Sl × Sl) → Heap → Prop) : Prop :=
  mem h fun h0 =>
  Lift.load Value.pointer c0 h0 fun v =>
  loadS C_bool_sl_sl 3 c1 h0 fun v_1 =>
  ratio_Mul v (v_1.1, v_1.2.1, v_1.2.2) (x0.1, x0.2.1, x0.2.2) h0 fun v_2 h0u1 =>
  Q (v_2.1, v_2.2.1, v_2.2.2) h0u1

def linear_kept (b : (Option Addr)) (p : Bool × Sl × Sl × Sl) (h : Heap) (Q : (Bool × Sl × Sl × Sl) → Heap → Prop) : Prop :=
  mem h fun h0 =>
  nat_Bench_Over b h0 fun v h0u1 =>
  iteB v (
   Q (false, Sl.nil, Sl.nil, Sl.nil) h0u1
  ) (
   Q (p.1, p.2.1, p.2.2.1, p.2.2.2) h0u1
  )

def linear_Scale (b : (Option Addr)) (k : Bool × Sl × Sl) (p : Bool × Sl × Sl × Sl) (h : Heap) (Q : (Bool × Sl × Sl × Sl) → Heap → Prop) : Prop :=
  new [Value.pointer b] h fun b_1 h0 =>
  new [Value.bool k.1, Sl.toV k.2.1, Sl.toV k.2.2] h0 fun k_1 h0u1 =>
  mem h0u1 fun h0u2 =>
  loadS C_bool_sl_sl 3 k_1 h0u2 fun v =>
  ratio_Sign (v.1, v.2.1, v.2.2) h0u2 fun v_1 h0u3 =>
  iteB (v_1 == 0) (
   Q (false, Sl.nil, Sl.nil, Sl.nil) h0u3
  ) (
   linear_Scale_c1 (p.1, p.2.1, p.2.2.1) b_1 k_1 h0u3 fun v_2 h0u4 =>
   mem h0u4 fun h0u5 =>
   loop (fun (s0 : Int × Bool × Sl × Sl × Sl) h0u6 (K0 : (Int × Bool × Sl × Sl × Sl) → Heap → Prop) =>
    iteB (decide (s0.1 < ((p.2.2.2.len : Nat) : Int))) (
     idxS p.2.2.2 s0.1 4 fun a =>
     loadS C_i64ubool_sl_sl 4 a h0u6 fun v_3 =>
     mem h0u6 fun h0u7 =>
     linear_Scale_c1 (v_3.2.1, v_3.2.2.1, v_3.2.2.2) b_1 k_1 h0u7 fun v_4 h0u8 =>
     new [Value.int .i64 v_3.1, Value.bool v_4.1, Sl.toV v_4.2.1, Sl.toV v_4.2.2] h0u8 fun a_1 h0u9 =>
     appendS 4 64 s0.2.2.2.2 (⟨some a_1, 1, 1⟩ : Sl) h0u9 fun v_6 h0u10 =>
     K0 (IntKind.wrap .i64 (s0.1 + 1), s0.2.1, s0.2.2.1, s0.2.2.2.1, v_6) h0u10
    ) (
     Lift.load Value.pointer b_1 h0u6 fun v_7 =>
     linear_kept v_7 (s0.2.1, s0.2.2.1, s0.2.2.2.1, s0.2.2.2.2) h0u6 fun v_8 h0u11 =>
     Q (v_8.1, v_8.2.1, v_8.2.2.1, v_8.2.2.2) h0u11
    )
   ) (0, v_2.1, v_2.2.1, v_2.2.2, Sl.nil) h0u5
  )

def ratio_over (x0 : Bool × Sl) (n : Sl) (h : Heap) (Q : (Bool × Sl) → Heap → Prop) : Prop :=
  mem h fun h0 =>
  ratio_free h0 fun v h0u1 =>
  nat_Bench_Mul v x0.2 n h0u1 fun v_1 h0u2 =>
  Q (x0.1, v_1) h0u2

def ratio_cross (x0 : Bool × Sl × Sl) (y : Bool × Sl × Sl) (h : Heap) (Q : ((Bool × Sl) × (Bool × Sl)) → Heap → Prop) : Prop :=
  mem h fun h0 =>
  ratio_den (y.1, y.2.1, y.2.2) h0 fun v h0u1 =>
  ratio_over (x0.1, x0.2.1) v h0u1 fun v_1 h0u2 =>
  ratio_den (x0.1, x0.2.1, x0.2.2) h0u2 fun v_2 h0u3 =>
  ratio_over (y.1, y.2.1) v_2 h0u3 fun v_3 h0u4 =>
  Q ((v_1.1, v_1.2), (v_3.1, v_3.2)) h0u4

def nat_Bench_Sub (b : (Option Addr)) (x0 : Sl) (y : Sl) (h : Heap) (Q : Sl → Heap → Prop) : Prop :=
  nat_Cmp x0 y h fun v h0 =>
  iteB (decide (v < 0)) (
   Q Sl.nil h0
  ) (
   nat_trim y h0 fun v_1 h0u1 =>
   nat_minus x0 v_1 h0u1 fun v_2 h0u2 =>
   nat_Bench_fit b v_2 h0u2 fun v_3 h0u3 =>
   Q v_3 h0u3
  )

def ratio_sum (x0 : Bool × Sl) (y : Bool × Sl) (h : Heap) (Q : (Bool × Sl) → Heap → Prop) : Prop :=
  mem h fun h0 =>
  ratio_free h0 fun v h0u1 =>
  iteB (x0.1 == y.1) (
   nat_Bench_Add v x0.2 y.2 h0u1 fun v_1 h0u2 =>
   Q (x0.1, v_1) h0u2
  ) (
   nat_Cmp x0.2 y.2 h0u1 fun v_2 h0u3 =>
   iteB (decide (v_2 ≥ 0)) (
    nat_Bench_Sub v x0.2 y.2 h0u3 fun v_3 h0u4 =>
    Q (x0.1, v_3) h0u4
   ) (
    nat_Bench_Sub v y.2 x0.2 h0u3 fun v_4 h0u5 =>
    Q (y.1, v_4) h0u5
   )
  )

def ratio_Add (b : (Option Addr)) (x0 : Bool × Sl × Sl) (y : Bool × Sl × Sl) (h : Heap) (Q : (Bool × Sl × Sl) → Heap → Prop) : Prop :=
  mem h fun h0 =>
  ratio_cross (x0.1, x0.2.1, x0.2.2) (y.1, y.2.1, y.2.2) h0 fun v h0u1 =>
  ratio_sum (v.1.1, v.1.2) (v.2.1, v.2.2) h0u1 fun v_1 h0u2 =>
  mem h0u2 fun h0u3 =>
  ratio_free h0u3 fun v_2 h0u4 =>
  ratio_den (x0.1, x0.2.1, x0.2.2) h0u4 fun v_3 h0u5 =>
  ratio_den (y.1, y.2.1, y.2.2) h0u5 fun v_4 h0u6 =>
  nat_Bench_Mul v_2 v_3 v_4 h0u6 fun v_5 h0u7 =>
  ratio_form v_1.1 v_1.2 v_5 h0u7 fun v_6 h0u8 =>
  ratio_fit b (v_6.1, v_6.2.1, v_6.2.2) h0u8 fun v_7 h0u9 =>
  Q (v_7.1, v_7.2.1, v_7.2.2) h0u9

def linear_Add (b : (Option Addr)) (p : Bool × Sl × Sl × Sl) (k : Bool × Sl × Sl) (q : Bool × Sl × Sl × Sl) (h : Heap) (Q : (Bool × Sl × Sl × Sl) → Heap → Prop) : Prop :=
  mem h fun h0 =>
  linear_Scale b (k.1, k.2.1, k.2.2) (q.1, q.2.1, q.2.2.1, q.2.2.2) h0 fun v h0u1 =>
  ratio_Add b (p.1, p.2.1, p.2.2.1) (v.1, v.2.1, v.2.2.1) h0u1 fun v_1 h0u2 =>
  mem h0u2 fun h0u3 =>
  loop (fun (s0 : Sl × Sl × Bool × Sl × Sl × Sl) h0u4 (K0 : (Sl × Sl × Bool × Sl × Sl × Sl) → Heap → Prop) =>
   seq (fun (K0u1 : Bool → Heap → Prop) =>
    iteB (decide (((s0.1.len : Nat) : Int) > 0)) (
     K0u1 true h0u4
    ) (
     K0u1 (decide (((s0.2.1.len : Nat) : Int) > 0)) h0u4
    )
   ) (fun t0 h0u5 =>
    iteB t0 (
     mem h0u5 fun h0u6 =>
     seq (fun (K0u2 : (Sl × Sl × Int × Bool × Sl × Sl) → Heap → Prop) =>
      seq (fun (K0u3 : Bool → Heap → Prop) =>
       iteB (((s0.2.1.len : Nat) : Int) == 0) (
        K0u3 true h0u6
       ) (
        iteB (decide (((s0.1.len : Nat) : Int) > 0)) (
         idxS s0.1 0 4 fun a =>
         Lift.load (Value.int .i64) (a.add 0) h0u6 fun v_2 =>
         idxS s0.2.1 0 4 fun a_1 =>
         Lift.load (Value.int .i64) (a_1.add 0) h0u6 fun v_3 =>
         K0u3 (decide (v_2 < v_3)) h0u6
        ) (
         K0u3 false h0u6
        )
       )
      ) (fun t0u2 h0u8 =>
       iteB t0u2 (
        idxS s0.1 0 4 fun a_2 =>
        loadS C_i64ubool_sl_sl 4 a_2 h0u8 fun v_4 =>
        sliceOf s0.1 (some 1) none none 4 fun v_5 =>
        K0u2 (v_5, s0.2.1, v_4.1, v_4.2.1, v_4.2.2.1, v_4.2.2.2) h0u8
       ) (
        seq (fun (K0u4 : Bool → Heap → Prop) =>
         iteB (((s0.1.len : Nat) : Int) == 0) (
          K0u4 true h0u8
         ) (
          idxS s0.1 0 4 fun a_3 =>
          Lift.load (Value.int .i64) (a_3.add 0) h0u8 fun v_6 =>
          idxS s0.2.1 0 4 fun a_4 =>
          Lift.load (Value.int .i64) (a_4.add 0) h0u8 fun v_7 =>
          K0u4 (decide (v_6 > v_7)) h0u8
         )
        ) (fun t0u3 h0u9 =>
         iteB t0u3 (
          idxS s0.2.1 0 4 fun a_5 =>
          loadS C_i64ubool_sl_sl 4 a_5 h0u9 fun v_8 =>
          sliceOf s0.2.1 (some 1) none none 4 fun v_9 =>
          K0u2 (s0.1, v_9, v_8.1, v_8.2.1, v_8.2.2.1, v_8.2.2.2) h0u9
         ) (
          idxS s0.1 0 4 fun a_6 =>
          Lift.load (Value.int .i64) (a_6.add 0) h0u9 fun v_10 =>
          idxS s0.1 0 4 fun a_7 =>
          loadS C_bool_sl_sl 3 (a_7.add 1) h0u9 fun v_11 =>
          idxS s0.2.1 0 4 fun a_8 =>
          loadS C_bool_sl_sl 3 (a_8.add 1) h0u9 fun v_12 =>
          ratio_Add b (v_11.1, v_11.2.1, v_11.2.2) (v_12.1, v_12.2.1, v_12.2.2) h0u9 fun v_13 h0u10 =>
          (cell? h0u10 (a_6.add 0) = some (Value.int .i64 v_10)) ∧
          sliceOf s0.1 (some 1) none none 4 fun v_14 =>
          sliceOf s0.2.1 (some 1) none none 4 fun v_15 =>
          K0u2 (v_14, v_15, v_10, v_13.1, v_13.2.1, v_13.2.2) h0u10
         )
        )
       )
      )
     ) (fun t0u1 h0u7 =>
      ratio_Sign (t0u1.2.2.2.1, t0u1.2.2.2.2.1, t0u1.2.2.2.2.2) h0u7 fun v_16 h0u11 =>
      iteB (v_16 != 0) (
       new [Value.int .i64 t0u1.2.2.1, Value.bool t0u1.2.2.2.1, Sl.toV t0u1.2.2.2.2.1, Sl.toV t0u1.2.2.2.2.2] h0u11 fun a_9 h0u12 =>
       appendS 4 64 s0.2.2.2.2.2 (⟨some a_9, 1, 1⟩ : Sl) h0u12 fun v_18 h0u13 =>
       K0 (t0u1.1, t0u1.2.1, s0.2.2.1, s0.2.2.2.1, s0.2.2.2.2.1, v_18) h0u13
      ) (
       K0 (t0u1.1, t0u1.2.1, s0.2.2.1, s0.2.2.2.1, s0.2.2.2.2.1, s0.2.2.2.2.2) h0u11
      )
     )
    ) (
     linear_kept b (s0.2.2.1, s0.2.2.2.1, s0.2.2.2.2.1, s0.2.2.2.2.2) h0u5 fun v_19 h0u14 =>
     Q (v_19.1, v_19.2.1, v_19.2.2.1, v_19.2.2.2) h0u14
    )
   )
  ) (p.2.2.2, v.2.2.2, v_1.1, v_1.2.1, v_1.2.2, Sl.nil) h0u3

def ratio_Div (b : (Option Addr)) (x0 : Bool × Sl × Sl) (y : Bool × Sl × Sl) (h : Heap) (Q : (Bool × Sl × Sl) → Heap → Prop) : Prop :=
  mem h fun h0 =>
  ratio_Sign (y.1, y.2.1, y.2.2) h0 fun v h0u1 =>
  iteB (v == 0) (
   Q (false, Sl.nil, Sl.nil) h0u1
  ) (
   ratio_free h0u1 fun v_1 h0u2 =>
   ratio_den (y.1, y.2.1, y.2.2) h0u2 fun v_2 h0u3 =>
   nat_Bench_Mul v_1 x0.2.1 v_2 h0u3 fun v_3 h0u4 =>
   ratio_den (x0.1, x0.2.1, x0.2.2) h0u4 fun v_4 h0u5 =>
   nat_Bench_Mul v_1 v_4 y.2.1 h0u5 fun v_5 h0u6 =>
   ratio_form (!(x0.1 == y.1)) v_3 v_5 h0u6 fun v_6 h0u7 =>
   ratio_fit b (v_6.1, v_6.2.1, v_6.2.2) h0u7 fun v_7 h0u8 =>
   Q (v_7.1, v_7.2.1, v_7.2.2) h0u8
  )

def linear_Normal (b : (Option Addr)) (p : Bool × Sl × Sl × Sl) (h : Heap) (Q : ((Bool × Sl × Sl × Sl) × (Bool × Sl × Sl)) → Heap → Prop) : Prop :=
  mem h fun h0 =>
  iteB (((p.2.2.2.len : Nat) : Int) == 0) (
   Q ((false, Sl.nil, Sl.nil, Sl.nil), (false, Sl.nil, Sl.nil)) h0
  ) (
   idxS p.2.2.2 0 4 fun a =>
   loadS C_bool_sl_sl 3 (a.add 1) h0 fun v =>
   mem h0 fun h0u1 =>
   seq (fun (K0 : (Bool × Sl × Sl × Sl) → Heap → Prop) =>
    mem h0u1 fun h0u3 =>
    ratio_Of 1 h0u3 fun v_7 h0u16 =>
    mem h0u16 fun h0u17 =>
    ratio_Div b (v_7.1, v_7.2.1, v_7.2.2) (v.1, v.2.1, v.2.2) h0u17 fun v_8 h0u18 =>
    mem h0u18 fun h0u19 =>
    linear_Scale b (v_8.1, v_8.2.1, v_8.2.2) (false, Sl.nil, Sl.nil, p.2.2.2) h0u19 fun v_9 h0u20 =>
    mem h0u20 fun h0u21 =>
    K0 (v_9.1, v_9.2.1, v_9.2.2.1, v_9.2.2.2) h0u21
   ) (fun t0 h0u2 =>
    nat_Bench_Over b h0u2 fun v_10 h0u22 =>
    iteB v_10 (
     Q ((false, Sl.nil, Sl.nil, Sl.nil), (false, Sl.nil, Sl.nil)) h0u22
    ) (
     Q ((t0.1, t0.2.1, t0.2.2.1, t0.2.2.2), (v.1, v.2.1, v.2.2)) h0u22
    )
   )
  )

def slices_Reverse_byte_byte (s0 : Sl) (h : Heap) (Q : Unit → Heap → Prop) : Prop :=
  Let (IntKind.wrap .i64 (((s0.len : Nat) : Int) - 1) : Int) fun j =>
  loop (fun (s0u1 : Int × Int) h0 (K0 : (Int × Int) → Heap → Prop) =>
   iteB (decide (s0u1.1 < s0u1.2)) (
    idxS s0 s0u1.2 1 fun a =>
    Lift.load (Value.int .u8) a h0 fun v =>
    idxS s0 s0u1.1 1 fun a_1 =>
    Lift.load (Value.int .u8) a_1 h0 fun v_1 =>
    idxS s0 s0u1.1 1 fun a_2 =>
    Lift.store a_2 (Value.int .u8 v) h0 fun h0u1 =>
    idxS s0 s0u1.2 1 fun a_3 =>
    Lift.store a_3 (Value.int .u8 v_1) h0u1 fun h0u2 =>
    Let (IntKind.wrap .i64 (s0u1.1 + 1) : Int) fun i =>
    Let (IntKind.wrap .i64 (s0u1.2 - 1) : Int) fun j_1 =>
    K0 (i, j_1) h0u2
   ) (
    Q () h0
   )
  ) (0, j) h

def nat_Text (x0 : Sl) (h : Heap) (Q : ByteArray → Heap → Prop) : Prop :=
  nat_trim x0 h fun v h0 =>
  loop (fun (s0 : Sl × Sl) h0u1 (K0 : (Sl × Sl) → Heap → Prop) =>
   iteB (decide (((s0.1.len : Nat) : Int) > 0)) (
    new [Value.int .u32 1000000000] h0u1 fun a h0u2 =>
    nat_divide s0.1 (⟨some a, 1, 1⟩ : Sl) h0u2 fun v_2 h0u3 =>
    nat_small v_2.2 h0u3 fun v_3 h0u4 =>
    loop (fun (s0u1 : Sl × Int × Int) h0u5 (K0u1 : (Sl × Int × Int) → Heap → Prop) =>
     seq (fun (K0u2 : Bool → Heap → Prop) =>
      iteB (decide (s0u1.2.2 < 9)) (
       iteB (decide (((v_2.1.len : Nat) : Int) > 0)) (
        K0u2 true h0u5
       ) (
        K0u2 (decide (s0u1.2.1 > 0)) h0u5
       )
      ) (
       K0u2 false h0u5
      )
     ) (fun t0 h0u6 =>
      iteB t0 (
       new [Value.int .u8 (IntKind.wrap .u8 (IntKind.wrap .u64 (48 + (Int.tmod s0u1.2.1 10))))] h0u6 fun a_1 h0u7 =>
       appendS 1 1 s0u1.1 (⟨some a_1, 1, 1⟩ : Sl) h0u7 fun v_5 h0u8 =>
       Let (IntKind.wrap .u64 (Int.tdiv s0u1.2.1 10) : Int) fun part =>
       Let (IntKind.wrap .i64 (s0u1.2.2 + 1) : Int) fun i =>
       K0u1 (v_5, part, i) h0u8
      ) (
       K0 (v_2.1, s0u1.1) h0u6
      )
     )
    ) (s0.2, v_3.1, 0) h0u4
   ) (
    iteB (((s0.2.len : Nat) : Int) == 0) (
     Q (ByteArray.mk #[48]) h0u1
    ) (
     slices_Reverse_byte_byte s0.2 h0u1 fun v_6 h0u9 =>
     strOf s0.2 h0u9 fun v_7 =>
     Q v_7 h0u9
    )
   )
  ) (v, Sl.nil) h0

def ratio_Text (x0 : Bool × Sl × Sl) (h : Heap) (Q : ByteArray → Heap → Prop) : Prop :=
  mem h fun h0 =>
  nat_Text x0.2.1 h0 fun v h0u1 =>
  seq (fun (K0 : ByteArray → Heap → Prop) =>
   iteB x0.1 (
    (((ByteArray.mk #[45]).size + v.size : Nat) : Int) ≤ 9223372036854775807 ∧
    Let (((ByteArray.mk #[45]) ++ v) : ByteArray) fun s0 =>
    K0 s0 h0u1
   ) (
    K0 v h0u1
   )
  ) (fun t0 h0u2 =>
   seq (fun (K0u1 : ByteArray → Heap → Prop) =>
    iteB (decide (((x0.2.2.len : Nat) : Int) > 0)) (
     nat_Text x0.2.2 h0u2 fun v_1 h0u4 =>
     (((ByteArray.mk #[47]).size + v_1.size : Nat) : Int) ≤ 9223372036854775807 ∧
     ((t0.size + ((ByteArray.mk #[47]) ++ v_1).size : Nat) : Int) ≤ 9223372036854775807 ∧
     Let ((t0 ++ ((ByteArray.mk #[47]) ++ v_1)) : ByteArray) fun s0u1 =>
     K0u1 s0u1 h0u4
    ) (
     K0u1 t0 h0u2
    )
   ) (fun t0u1 h0u3 =>
    Q t0u1 h0u3
   )
  )

def law12uspeaks (h : Heap) (Q : Bool → Heap → Prop) : Prop :=
  nat_New 2 h fun v h0 =>
  ratio_Of 3 h0 fun v_1 h0u1 =>
  ratio_Of 2 h0u1 fun v_2 h0u2 =>
  linear_Of 0 h0u2 fun v_3 h0u3 =>
  linear_Add v (v_1.1, v_1.2.1, v_1.2.2, Sl.nil) (v_2.1, v_2.2.1, v_2.2.2) (v_3.1, v_3.2.1, v_3.2.2.1, v_3.2.2.2) h0u3 fun v_4 h0u4 =>
  mem h0u4 fun h0u5 =>
  seq (fun (K0 : (Bool × Sl × Sl × Sl × Bool × Sl × Sl) → Heap → Prop) =>
   mem h0u5 fun h0u7 =>
   ratio_Of (-1) h0u7 fun v_51 h0u100 =>
   mem h0u100 fun h0u101 =>
   linear_Of 1 h0u101 fun v_52 h0u102 =>
   mem h0u102 fun h0u103 =>
   linear_Add v (v_4.1, v_4.2.1, v_4.2.2.1, v_4.2.2.2) (v_51.1, v_51.2.1, v_51.2.2) (v_52.1, v_52.2.1, v_52.2.2.1, v_52.2.2.2) h0u103 fun v_53 h0u104 =>
   mem h0u104 fun h0u105 =>
   linear_Normal v (v_53.1, v_53.2.1, v_53.2.2.1, v_53.2.2.2) h0u105 fun v_54 h0u106 =>
   mem h0u106 fun h0u107 =>
   K0 (v_54.1.1, v_54.1.2.1, v_54.1.2.2.1, v_54.1.2.2.2, v_54.2.1, v_54.2.2.1, v_54.2.2.2) h0u107
  ) (fun t0 h0u6 =>
   seq (fun (K0u1 : Bool → Heap → Prop) =>
    iteB (((t0.2.2.2.1.len : Nat) : Int) == 2) (
     idxS t0.2.2.2.1 1 4 fun a =>
     loadS C_bool_sl_sl 3 (a.add 1) h0u6 fun v_69 =>
     ratio_Text (v_69.1, v_69.2.1, v_69.2.2) h0u6 fun v_70 h0u137 =>
     iteB (v_70.toList == (ByteArray.mk #[45, 49, 47, 50]).toList) (
      ratio_Text (t0.2.2.2.2.1, t0.2.2.2.2.2.1, t0.2.2.2.2.2.2) h0u137 fun v_71 h0u138 =>
      K0u1 (v_71.toList == (ByteArray.mk #[50]).toList) h0u138
     ) (
      K0u1 false h0u137
     )
    ) (
     K0u1 false h0u6
    )
   ) (fun t0u1 h0u136 =>
    Q t0u1 h0u136
   )
  )

def nat_Right (x0 : Sl) (h : Heap) (Q : Bool → Heap → Prop) : Prop :=
  nat_trim x0 h fun v h0 =>
  Q (((v.len : Nat) : Int) == ((x0.len : Nat) : Int)) h0

def ratio_Right (x0 : Bool × Sl × Sl) (h : Heap) (Q : Bool → Heap → Prop) : Prop :=
  mem h fun h0 =>
  seq (fun (K0 : Bool → Heap → Prop) =>
   nat_Right x0.2.1 h0 fun v h0u2 =>
   iteB (!v) (
    K0 true h0u2
   ) (
    nat_Right x0.2.2 h0u2 fun v_1 h0u3 =>
    iteB (!v_1) (
     K0 true h0u3
    ) (
     ratio_isOne x0.2.2 h0u3 fun v_2 h0u4 =>
     K0 v_2 h0u4
    )
   )
  ) (fun t0 h0u1 =>
   iteB t0 (
    Q false h0u1
   ) (
    iteB (((x0.2.1.len : Nat) : Int) == 0) (
     seq (fun (K0u1 : Bool → Heap → Prop) =>
      iteB (!x0.1) (
       K0u1 (((x0.2.2.len : Nat) : Int) == 0) h0u1
      ) (
       K0u1 false h0u1
      )
     ) (fun t0u1 h0u5 =>
      Q t0u1 h0u5
     )
    ) (
     ratio_free h0u1 fun v_3 h0u6 =>
     ratio_den (x0.1, x0.2.1, x0.2.2) h0u6 fun v_4 h0u7 =>
     nat_Bench_Gcd v_3 x0.2.1 v_4 h0u7 fun v_5 h0u8 =>
     ratio_isOne v_5 h0u8 fun v_6 h0u9 =>
     Q v_6 h0u9
    )
   )
  )

def linear_Right (p : Bool × Sl × Sl × Sl) (h : Heap) (Q : Bool → Heap → Prop) : Prop :=
  mem h fun h0 =>
  loop (fun (s0 : Int × Int) h0u1 (K0 : (Int × Int) → Heap → Prop) =>
   iteB (decide (s0.2 < ((p.2.2.2.len : Nat) : Int))) (
    idxS p.2.2.2 s0.2 4 fun a =>
    loadS C_i64ubool_sl_sl 4 a h0u1 fun v =>
    mem h0u1 fun h0u2 =>
    seq (fun (K0u1 : Bool → Heap → Prop) =>
     iteB (decide (v.1 ≤ s0.1)) (
      K0u1 true h0u2
     ) (
      ratio_Sign (v.2.1, v.2.2.1, v.2.2.2) h0u2 fun v_1 h0u4 =>
      iteB (v_1 == 0) (
       K0u1 true h0u4
      ) (
       ratio_Right (v.2.1, v.2.2.1, v.2.2.2) h0u4 fun v_2 h0u5 =>
       K0u1 (!v_2) h0u5
      )
     )
    ) (fun t0 h0u3 =>
     iteB t0 (
      Q false h0u3
     ) (
      K0 (v.1, IntKind.wrap .i64 (s0.2 + 1)) h0u3
     )
    )
   ) (
    ratio_Right (p.1, p.2.1, p.2.2.1) h0u1 fun v_3 h0u6 =>
    Q v_3 h0u6
   )
  ) ((-1), 0) h0

def ref01uCut (x0 : Sl) (h : Heap) (Q : Sl → Heap → Prop) : Prop :=
  Let (((x0.len : Nat) : Int) : Int) fun n =>
  loop (fun (s0 : Int) h0 (K0 : Int → Heap → Prop) =>
   seq (fun (K0u1 : Bool → Heap → Prop) =>
    iteB (decide (s0 > 0)) (
     idxS x0 (IntKind.wrap .i64 (s0 - 1)) 1 fun a =>
     Lift.load (Value.int .i64) a h0 fun v =>
     K0u1 (v == 0) h0
    ) (
     K0u1 false h0
    )
   ) (fun t0 h0u1 =>
    iteB t0 (
     Let (IntKind.wrap .i64 (s0 - 1) : Int) fun n_1 =>
     K0 n_1 h0u1
    ) (
     sliceOf x0 none (some s0) none 1 fun v_1 =>
     Q v_1 h0u1
    )
   )
  ) n h

def ref01uOf (x0 : Sl) (h : Heap) (Q : Sl → Heap → Prop) : Prop :=
  new [] h fun a h0 =>
  Let ((⟨some a, 0, 0⟩ : Sl) : Sl) fun out =>
  Let (IntKind.wrap .i64 (((x0.len : Nat) : Int) - 1) : Int) fun i =>
  loop (fun (s0 : Sl × Int) h0u1 (K0 : (Sl × Int) → Heap → Prop) =>
   iteB (decide (s0.2 ≥ 0)) (
    idxS x0 s0.2 1 fun a_1 =>
    Lift.load (Value.int .u32) a_1 h0u1 fun v_1 =>
    Let (IntKind.wrap .i64 v_1 : Int) fun carry =>
    loop (fun (s0u1 : Int × Int) h0u2 (K0u1 : (Int × Int) → Heap → Prop) =>
     iteB (decide (s0u1.2 < ((s0.1.len : Nat) : Int))) (
      idxS s0.1 s0u1.2 1 fun a_2 =>
      Lift.load (Value.int .i64) a_2 h0u2 fun v_2 =>
      Let (IntKind.wrap .i64 ((IntKind.wrap .i64 (v_2 * 4294967296)) + s0u1.1) : Int) fun n =>
      idxS s0.1 s0u1.2 1 fun a_3 =>
      Lift.store a_3 (Value.int .i64 (Int.tmod n 10)) h0u2 fun h0u3 =>
      Let (IntKind.wrap .i64 (Int.tdiv n 10) : Int) fun carry_1 =>
      Let (IntKind.wrap .i64 (s0u1.2 + 1) : Int) fun k =>
      K0u1 (carry_1, k) h0u3
     ) (
      loop (fun (s0u2 : Sl × Int) h0u4 (K0u2 : (Sl × Int) → Heap → Prop) =>
       iteB (decide (s0u2.2 > 0)) (
        new [Value.int .i64 (Int.tmod s0u2.2 10)] h0u4 fun a_4 h0u5 =>
        appendS 1 8 s0u2.1 (⟨some a_4, 1, 1⟩ : Sl) h0u5 fun v_4 h0u6 =>
        Let (IntKind.wrap .i64 (Int.tdiv s0u2.2 10) : Int) fun carry_2 =>
        K0u2 (v_4, carry_2) h0u6
       ) (
        Let (IntKind.wrap .i64 (s0.2 - 1) : Int) fun i_1 =>
        K0 (s0u2.1, i_1) h0u4
       )
      ) (s0.1, s0u1.1) h0u2
     )
    ) (carry, 0) h0u1
   ) (
    ref01uCut s0.1 h0u1 fun v_5 h0u7 =>
    Q v_5 h0u7
   )
  ) (out, i) h0

def ref02uOf (x0 : Bool × Sl × Sl) (h : Heap) (Q : (Bool × Sl × Sl) → Heap → Prop) : Prop :=
  mem h fun h0 =>
  seq (fun (K0 : (Bool × Sl × Sl) → Heap → Prop) =>
   mem h0 fun h0u2 =>
   ref01uOf x0.2.1 h0u2 fun v_3 h0u9 =>
   mem h0u9 fun h0u10 =>
   ref01uOf x0.2.2 h0u10 fun v_4 h0u11 =>
   mem h0u11 fun h0u12 =>
   K0 (x0.1, v_3, v_4) h0u12
  ) (fun t0 h0u1 =>
   seq (fun (K0u1 : (Bool × Sl × Sl) → Heap → Prop) =>
    iteB (((t0.2.2.len : Nat) : Int) == 0) (
     new [Value.int .i64 1] h0u1 fun a h0u14 =>
     K0u1 (t0.1, t0.2.1, (⟨some a, 1, 1⟩ : Sl)) h0u14
    ) (
     K0u1 (t0.1, t0.2.1, t0.2.2) h0u1
    )
   ) (fun t0u1 h0u13 =>
    Q (t0u1.1, t0u1.2.1, t0u1.2.2) h0u13
   )
  )

def ref02uInt (n : Int) (h : Heap) (Q : (Bool × Sl × Sl) → Heap → Prop) : Prop :=
  mem h fun h0 =>
  new [] h0 fun a h0u1 =>
  new [Value.int .i64 1] h0u1 fun a_1 h0u2 =>
  mem h0u2 fun h0u3 =>
  seq (fun (K0 : Int → Heap → Prop) =>
   iteB (decide (n < 0)) (
    Let (IntKind.wrap .i64 (0 - n) : Int) fun n_1 =>
    K0 n_1 h0u3
   ) (
    K0 n h0u3
   )
  ) (fun t0 h0u4 =>
   loop (fun (s0 : Int × Bool × Sl × Sl) h0u5 (K0u1 : (Int × Bool × Sl × Sl) → Heap → Prop) =>
    iteB (decide (s0.1 > 0)) (
     new [Value.int .i64 (Int.tmod s0.1 10)] h0u5 fun a_2 h0u6 =>
     appendS 1 8 s0.2.2.1 (⟨some a_2, 1, 1⟩ : Sl) h0u6 fun v_3 h0u7 =>
     Let (IntKind.wrap .i64 (Int.tdiv s0.1 10) : Int) fun n_2 =>
     K0u1 (n_2, s0.2.1, v_3, s0.2.2.2) h0u7
    ) (
     Q (s0.2.1, s0.2.2.1, s0.2.2.2) h0u5
    )
   ) (t0, decide (n < 0), (⟨some a, 0, 0⟩ : Sl), (⟨some a_1, 1, 1⟩ : Sl)) h0u4
  )

def ref01uCmp (x0 : Sl) (y : Sl) (h : Heap) (Q : Int → Heap → Prop) : Prop :=
  iteB (((x0.len : Nat) : Int) != ((y.len : Nat) : Int)) (
   iteB (decide (((x0.len : Nat) : Int) < ((y.len : Nat) : Int))) (
    Q (-1) h
   ) (
    Q 1 h
   )
  ) (
   Let (IntKind.wrap .i64 (((x0.len : Nat) : Int) - 1) : Int) fun i =>
   loop (fun (s0 : Int) h0 (K0 : Int → Heap → Prop) =>
    iteB (decide (s0 ≥ 0)) (
     idxS x0 s0 1 fun a =>
     Lift.load (Value.int .i64) a h0 fun v =>
     idxS y s0 1 fun a_1 =>
     Lift.load (Value.int .i64) a_1 h0 fun v_1 =>
     iteB (decide (v < v_1)) (
      Q (-1) h0
     ) (
      idxS x0 s0 1 fun a_2 =>
      Lift.load (Value.int .i64) a_2 h0 fun v_2 =>
      idxS y s0 1 fun a_3 =>
      Lift.load (Value.int .i64) a_3 h0 fun v_3 =>
      iteB (decide (v_2 > v_3)) (
       Q 1 h0
      ) (
       Let (IntKind.wrap .i64 (s0 - 1) : Int) fun i_1 =>
       K0 i_1 h0
      )
     )
    ) (
     Q 0 h0
    )
   ) i h
  )

def ref01uSub (x0 : Sl) (y : Sl) (h : Heap) (Q : Sl → Heap → Prop) : Prop :=
  ref01uCmp x0 y h fun v h0 =>
  iteB (decide (v < 0)) (
   new [] h0 fun a h0u1 =>
   Q (⟨some a, 0, 0⟩ : Sl) h0u1
  ) (
   new [] h0 fun a_1 h0u2 =>
   Let ((⟨some a_1, 0, 0⟩ : Sl) : Sl) fun out =>
   loop (fun (s0 : Sl × Int × Int) h0u3 (K0 : (Sl × Int × Int) → Heap → Prop) =>
    iteB (decide (s0.2.2 < ((x0.len : Nat) : Int))) (
     idxS x0 s0.2.2 1 fun a_2 =>
     Lift.load (Value.int .i64) a_2 h0u3 fun v_3 =>
     Let (IntKind.wrap .i64 (v_3 - s0.2.1) : Int) fun n =>
     seq (fun (K0u1 : Int → Heap → Prop) =>
      iteB (decide (s0.2.2 < ((y.len : Nat) : Int))) (
       idxS y s0.2.2 1 fun a_3 =>
       Lift.load (Value.int .i64) a_3 h0u3 fun v_4 =>
       Let (IntKind.wrap .i64 (n - v_4) : Int) fun n_1 =>
       K0u1 n_1 h0u3
      ) (
       K0u1 n h0u3
      )
     ) (fun t0 h0u4 =>
      seq (fun (K0u2 : (Int × Int) → Heap → Prop) =>
       iteB (decide (t0 < 0)) (
        Let (IntKind.wrap .i64 (t0 + 10) : Int) fun n_2 =>
        K0u2 (1, n_2) h0u4
       ) (
        K0u2 (0, t0) h0u4
       )
      ) (fun t0u1 h0u5 =>
       new [Value.int .i64 t0u1.2] h0u5 fun a_4 h0u6 =>
       appendS 1 8 s0.1 (⟨some a_4, 1, 1⟩ : Sl) h0u6 fun v_6 h0u7 =>
       Let (IntKind.wrap .i64 (s0.2.2 + 1) : Int) fun i =>
       K0 (v_6, t0u1.1, i) h0u7
      )
     )
    ) (
     ref01uCut s0.1 h0u3 fun v_7 h0u8 =>
     Q v_7 h0u8
    )
   ) (out, 0, 0) h0u2
  )

def ref01uDiv (x0 : Sl) (y : Sl) (h : Heap) (Q : (Sl × Sl) → Heap → Prop) : Prop :=
  iteB (((y.len : Nat) : Int) == 0) (
   new [] h fun a h0 =>
   new [] h0 fun a_1 h0u1 =>
   Q ((⟨some a, 0, 0⟩ : Sl), (⟨some a_1, 0, 0⟩ : Sl)) h0u1
  ) (
   Let (((x0.len : Nat) : Int) : Int) fun t15 =>
   mkS [Value.int .i64 0] 8 t15 t15 h fun v_2 h0u2 =>
   new [] h0u2 fun a_2 h0u3 =>
   Let ((⟨some a_2, 0, 0⟩ : Sl) : Sl) fun r =>
   Let (IntKind.wrap .i64 (((x0.len : Nat) : Int) - 1) : Int) fun i =>
   loop (fun (s0 : Sl × Int) h0u4 (K0 : (Sl × Int) → Heap → Prop) =>
    iteB (decide (s0.2 ≥ 0)) (
     idxS x0 s0.2 1 fun a_3 =>
     Lift.load (Value.int .i64) a_3 h0u4 fun v_4 =>
     new [Value.int .i64 v_4] h0u4 fun a_4 h0u5 =>
     appendS 1 8 (⟨some a_4, 1, 1⟩ : Sl) s0.1 h0u5 fun v_6 h0u6 =>
     ref01uCut v_6 h0u6 fun v_7 h0u7 =>
     loop (fun (s0u1 : Sl) h0u8 (K0u1 : Sl → Heap → Prop) =>
      ref01uCmp s0u1 y h0u8 fun v_8 h0u9 =>
      iteB (decide (v_8 ≥ 0)) (
       ref01uSub s0u1 y h0u9 fun v_9 h0u10 =>
       idxS v_2 s0.2 1 fun a_5 =>
       Lift.load (Value.int .i64) a_5 h0u10 fun v_10 =>
       idxS v_2 s0.2 1 fun a_6 =>
       Lift.store a_6 (Value.int .i64 (IntKind.wrap .i64 (v_10 + 1))) h0u10 fun h0u11 =>
       K0u1 v_9 h0u11
      ) (
       Let (IntKind.wrap .i64 (s0.2 - 1) : Int) fun i_1 =>
       K0 (s0u1, i_1) h0u9
      )
     ) v_7 h0u7
    ) (
     ref01uCut v_2 h0u4 fun v_11 h0u12 =>
     Q (v_11, s0.1) h0u12
    )
   ) (r, i) h0u3
  )

def ref01uGcd (x0 : Sl) (y : Sl) (h : Heap) (Q : Sl → Heap → Prop) : Prop :=
  loop (fun (s0 : Sl × Sl) h0 (K0 : (Sl × Sl) → Heap → Prop) =>
   iteB (decide (((s0.2.len : Nat) : Int) > 0)) (
    ref01uDiv s0.1 s0.2 h0 fun v h0u1 =>
    K0 (s0.2, v.2) h0u1
   ) (
    Q s0.1 h0
   )
  ) (x0, y) h

def ref02uLow (r : Bool × Sl × Sl) (h : Heap) (Q : (Bool × Sl × Sl) → Heap → Prop) : Prop :=
  mem h fun h0 =>
  iteB (((r.2.1.len : Nat) : Int) == 0) (
   ref02uInt 0 h0 fun v h0u1 =>
   Q (v.1, v.2.1, v.2.2) h0u1
  ) (
   ref01uGcd r.2.1 r.2.2 h0 fun v_1 h0u2 =>
   ref01uDiv r.2.1 v_1 h0u2 fun v_2 h0u3 =>
   ref01uDiv r.2.2 v_1 h0u3 fun v_3 h0u4 =>
   Q (r.1, v_2.1, v_3.1) h0u4
  )

def ref01uLimbs (x0 : Sl) (h : Heap) (Q : Sl → Heap → Prop) : Prop :=
  new [] h fun a h0 =>
  Let ((⟨some a, 0, 0⟩ : Sl) : Sl) fun out =>
  Let (IntKind.wrap .i64 (((x0.len : Nat) : Int) - 1) : Int) fun i =>
  loop (fun (s0 : Sl × Int) h0u1 (K0 : (Sl × Int) → Heap → Prop) =>
   iteB (decide (s0.2 ≥ 0)) (
    seq (fun (K0u1 : Sl → Heap → Prop) =>
     idxS x0 s0.2 1 fun a_1 =>
     Lift.load (Value.int .i64) a_1 h0u1 fun v_1 =>
     Let (IntKind.wrap .u64 v_1 : Int) fun carry =>
     loop (fun (s0u1 : Int × Int) h0u3 (K0u2 : (Int × Int) → Heap → Prop) =>
      iteB (decide (s0u1.2 < ((s0.1.len : Nat) : Int))) (
       idxS s0.1 s0u1.2 1 fun a_2 =>
       Lift.load (Value.int .u32) a_2 h0u3 fun v_2 =>
       Let (IntKind.wrap .u64 ((IntKind.wrap .u64 ((IntKind.wrap .u64 v_2) * 10)) + s0u1.1) : Int) fun n =>
       idxS s0.1 s0u1.2 1 fun a_3 =>
       Lift.store a_3 (Value.int .u32 (IntKind.wrap .u32 (Int.tmod n 4294967296))) h0u3 fun h0u4 =>
       Let (IntKind.wrap .u64 (Int.tdiv n 4294967296) : Int) fun carry_1 =>
       Let (IntKind.wrap .i64 (s0u1.2 + 1) : Int) fun k =>
       K0u2 (carry_1, k) h0u4
      ) (
       iteB (decide (s0u1.1 > 0)) (
        new [Value.int .u32 (IntKind.wrap .u32 s0u1.1)] h0u3 fun a_4 h0u5 =>
        appendS 1 4 s0.1 (⟨some a_4, 1, 1⟩ : Sl) h0u5 fun v_4 h0u6 =>
        K0u1 v_4 h0u6
       ) (
        K0u1 s0.1 h0u3
       )
      )
     ) (carry, 0) h0u1
    ) (fun t0 h0u2 =>
     Let (IntKind.wrap .i64 (s0.2 - 1) : Int) fun i_1 =>
     K0 (t0, i_1) h0u2
    )
   ) (
    Q s0.1 h0u1
   )
  ) (out, i) h0

def ref02uForm (r : Bool × Sl × Sl) (h : Heap) (Q : (Bool × Sl × Sl) → Heap → Prop) : Prop :=
  mem h fun h0 =>
  ref02uLow (r.1, r.2.1, r.2.2) h0 fun v h0u1 =>
  seq (fun (K0 : (Bool × Sl × Sl) → Heap → Prop) =>
   mem h0u1 fun h0u3 =>
   ref01uLimbs v.2.1 h0u3 fun v_2 h0u6 =>
   mem h0u6 fun h0u7 =>
   K0 (v.1, v_2, Sl.nil) h0u7
  ) (fun t0 h0u2 =>
   seq (fun (K0u1 : (Bool × Sl × Sl) → Heap → Prop) =>
    seq (fun (K0u2 : Bool → Heap → Prop) =>
     iteB (((v.2.2.len : Nat) : Int) != 1) (
      K0u2 true h0u2
     ) (
      idxS v.2.2 0 1 fun a =>
      Lift.load (Value.int .i64) a h0u2 fun v_3 =>
      K0u2 (v_3 != 1) h0u2
     )
    ) (fun t0u2 h0u9 =>
     iteB t0u2 (
      ref01uLimbs v.2.2 h0u9 fun v_4 h0u10 =>
      K0u1 (t0.1, t0.2.1, v_4) h0u10
     ) (
      K0u1 (t0.1, t0.2.1, t0.2.2) h0u9
     )
    )
   ) (fun t0u1 h0u8 =>
    Q (t0u1.1, t0u1.2.1, t0u1.2.2) h0u8
   )
  )

def ref01uSame (a : Sl) (b : Sl) (h : Heap) (Q : Bool → Heap → Prop) : Prop :=
  iteB (((a.len : Nat) : Int) != ((b.len : Nat) : Int)) (
   Q false h
  ) (
   loop (fun (s0 : Int) h0 (K0 : Int → Heap → Prop) =>
    iteB (decide (s0 < ((a.len : Nat) : Int))) (
     idxS a s0 1 fun a_1 =>
     Lift.load (Value.int .u32) a_1 h0 fun v =>
     idxS b s0 1 fun a_2 =>
     Lift.load (Value.int .u32) a_2 h0 fun v_1 =>
     iteB (v != v_1) (
      Q false h0
     ) (
      Let (IntKind.wrap .i64 (s0 + 1) : Int) fun i =>
      K0 i h0
     )
    ) (
     Q true h0
    )
   ) 0 h
  )

def ref02uSame (x0 : Bool × Sl × Sl) (y : Bool × Sl × Sl) (h : Heap) (Q : Bool → Heap → Prop) : Prop :=
  mem h fun h0 =>
  seq (fun (K0 : Bool → Heap → Prop) =>
   iteB (x0.1 == y.1) (
    ref01uSame x0.2.1 y.2.1 h0 fun v h0u2 =>
    iteB v (
     ref01uSame x0.2.2 y.2.2 h0u2 fun v_1 h0u3 =>
     K0 v_1 h0u3
    ) (
     K0 false h0u2
    )
   ) (
    K0 false h0
   )
  ) (fun t0 h0u1 =>
   Q t0 h0u1
  )

def ref02uRight (x0 : Bool × Sl × Sl) (h : Heap) (Q : Bool → Heap → Prop) : Prop :=
  mem h fun h0 =>
  seq (fun (K0 : Bool → Heap → Prop) =>
   iteB (decide (((x0.2.1.len : Nat) : Int) > 0)) (
    idxS x0.2.1 (IntKind.wrap .i64 (((x0.2.1.len : Nat) : Int) - 1)) 1 fun a =>
    Lift.load (Value.int .u32) a h0 fun v =>
    iteB (v == 0) (
     K0 true h0
    ) (
     iteB (decide (((x0.2.2.len : Nat) : Int) > 0)) (
      idxS x0.2.2 (IntKind.wrap .i64 (((x0.2.2.len : Nat) : Int) - 1)) 1 fun a_1 =>
      Lift.load (Value.int .u32) a_1 h0 fun v_1 =>
      iteB (v_1 == 0) (
       K0 true h0
      ) (
       iteB (((x0.2.1.len : Nat) : Int) == 0) (
        K0 x0.1 h0
       ) (
        K0 false h0
       )
      )
     ) (
      iteB (((x0.2.1.len : Nat) : Int) == 0) (
       K0 x0.1 h0
      ) (
       K0 false h0
      )
     )
    )
   ) (
    iteB (decide (((x0.2.2.len : Nat) : Int) > 0)) (
     idxS x0.2.2 (IntKind.wrap .i64 (((x0.2.2.len : Nat) : Int) - 1)) 1 fun a_2 =>
     Lift.load (Value.int .u32) a_2 h0 fun v_2 =>
     iteB (v_2 == 0) (
      K0 true h0
     ) (
      iteB (((x0.2.1.len : Nat) : Int) == 0) (
       K0 x0.1 h0
      ) (
       K0 false h0
      )
     )
    ) (
     iteB (((x0.2.1.len : Nat) : Int) == 0) (
      K0 x0.1 h0
     ) (
      K0 false h0
     )
    )
   )
  ) (fun t0 h0u1 =>
   iteB t0 (
    Q false h0u1
   ) (
    ref02uOf (x0.1, x0.2.1, x0.2.2) h0u1 fun v_3 h0u2 =>
    ref02uForm (v_3.1, v_3.2.1, v_3.2.2) h0u2 fun v_4 h0u3 =>
    ref02uSame (x0.1, x0.2.1, x0.2.2) (v_4.1, v_4.2.1, v_4.2.2) h0u3 fun v_5 h0u4 =>
    Q v_5 h0u4
   )
  )

def ref12uRight (p : Bool × Sl × Sl × Sl) (h : Heap) (Q : Bool → Heap → Prop) : Prop :=
  mem h fun h0 =>
  ref02uRight (p.1, p.2.1, p.2.2.1) h0 fun v h0u1 =>
  iteB (!v) (
   Q false h0u1
  ) (
   loop (fun (s0 : Int) h0u2 (K0 : Int → Heap → Prop) =>
    iteB (decide (s0 < ((p.2.2.2.len : Nat) : Int))) (
     idxS p.2.2.2 s0 4 fun a =>
     loadS C_i64ubool_sl_sl 4 a h0u2 fun v_1 =>
     mem h0u2 fun h0u3 =>
     seq (fun (K0u1 : Bool → Heap → Prop) =>
      iteB (decide (v_1.1 < 0)) (
       K0u1 true h0u3
      ) (
       iteB (decide (s0 > 0)) (
        idxS p.2.2.2 (IntKind.wrap .i64 (s0 - 1)) 4 fun a_1 =>
        Lift.load (Value.int .i64) (a_1.add 0) h0u3 fun v_2 =>
        iteB (decide (v_1.1 ≤ v_2)) (
         K0u1 true h0u3
        ) (
         ref02uRight (v_1.2.1, v_1.2.2.1, v_1.2.2.2) h0u3 fun v_3 h0u5 =>
         iteB (!v_3) (
          K0u1 true h0u5
         ) (
          K0u1 (((v_1.2.2.1.len : Nat) : Int) == 0) h0u5
         )
        )
       ) (
        ref02uRight (v_1.2.1, v_1.2.2.1, v_1.2.2.2) h0u3 fun v_4 h0u6 =>
        iteB (!v_4) (
         K0u1 true h0u6
        ) (
         K0u1 (((v_1.2.2.1.len : Nat) : Int) == 0) h0u6
        )
       )
      )
     ) (fun t0 h0u4 =>
      iteB t0 (
       Q false h0u4
      ) (
       Let (IntKind.wrap .i64 (s0 + 1) : Int) fun i =>
       K0 i h0u4
      )
     )
    ) (
     Q true h0u2
    )
   ) 0 h0u1
  )

def law02uGreat (l : Sl) (h : Heap) (Q : Bool → Heap → Prop) : Prop :=
  loop (fun (s0 : Int) h0 (K0 : Int → Heap → Prop) =>
   iteB (decide (s0 < ((l.len : Nat) : Int))) (
    idxS l s0 3 fun a =>
    loadS C_bool_sl_sl 3 a h0 fun v =>
    mem h0 fun h0u1 =>
    seq (fun (K0u1 : Bool → Heap → Prop) =>
     iteB (decide (((v.2.1.len : Nat) : Int) > 6)) (
      K0u1 true h0u1
     ) (
      K0u1 (decide (((v.2.2.len : Nat) : Int) > 6)) h0u1
     )
    ) (fun t0 h0u2 =>
     iteB t0 (
      Q true h0u2
     ) (
      K0 (IntKind.wrap .i64 (s0 + 1)) h0u2
     )
    )
   ) (
    Q false h0
   )
  ) 0 h

def law12uOdd (l : Sl) (h : Heap) (Q : Bool → Heap → Prop) : Prop :=
  loop (fun (s0 : Int) h0 (K0 : Int → Heap → Prop) =>
   iteB (decide (s0 < ((l.len : Nat) : Int))) (
    idxS l s0 4 fun a =>
    loadS C_bool_sl_sl_sl 4 a h0 fun v =>
    mem h0 fun h0u1 =>
    seq (fun (K0u1 : Bool → Heap → Prop) =>
     iteB (decide (((v.2.2.2.len : Nat) : Int) > 12)) (
      K0u1 true h0u1
     ) (
      new [Value.bool v.1, Sl.toV v.2.1, Sl.toV v.2.2.1] h0u1 fun a_1 h0u3 =>
      law02uGreat (⟨some a_1, 1, 1⟩ : Sl) h0u3 fun v_2 h0u4 =>
      iteB v_2 (
       K0u1 true h0u4
      ) (
       ref12uRight (v.1, v.2.1, v.2.2.1, v.2.2.2) h0u4 fun v_3 h0u5 =>
       K0u1 (!v_3) h0u5
      )
     )
    ) (fun t0 h0u2 =>
     iteB t0 (
      Q true h0u2
     ) (
      loop (fun (s0u1 : Int) h0u6 (K0u2 : Int → Heap → Prop) =>
       iteB (decide (s0u1 < ((v.2.2.2.len : Nat) : Int))) (
        idxS v.2.2.2 s0u1 4 fun a_2 =>
        loadS C_i64ubool_sl_sl 4 a_2 h0u6 fun v_4 =>
        mem h0u6 fun h0u7 =>
        new [Value.bool v_4.2.1, Sl.toV v_4.2.2.1, Sl.toV v_4.2.2.2] h0u7 fun a_3 h0u8 =>
        law02uGreat (⟨some a_3, 1, 1⟩ : Sl) h0u8 fun v_6 h0u9 =>
        iteB v_6 (
         Q true h0u9
        ) (
         K0u2 (IntKind.wrap .i64 (s0u1 + 1)) h0u9
        )
       ) (
        K0 (IntKind.wrap .i64 (s0 + 1)) h0u6
       )
      ) 0 h0u2
     )
    )
   ) (
    Q false h0
   )
  ) 0 h

def ref01uMul (x0 : Sl) (y : Sl) (h : Heap) (Q : Sl → Heap → Prop) : Prop :=
  Let (IntKind.wrap .i64 ((IntKind.wrap .i64 (((x0.len : Nat) : Int) + ((y.len : Nat) : Int))) + 1) : Int) fun t15 =>
  mkS [Value.int .i64 0] 8 t15 t15 h fun v h0 =>
  loop (fun (s0 : Int) h0u1 (K0 : Int → Heap → Prop) =>
   iteB (decide (s0 < ((x0.len : Nat) : Int))) (
    loop (fun (s0u1 : Int × Int) h0u2 (K0u1 : (Int × Int) → Heap → Prop) =>
     seq (fun (K0u2 : Bool → Heap → Prop) =>
      iteB (decide (s0u1.2 < ((y.len : Nat) : Int))) (
       K0u2 true h0u2
      ) (
       K0u2 (decide (s0u1.1 > 0)) h0u2
      )
     ) (fun t0 h0u3 =>
      iteB t0 (
       idxS v (IntKind.wrap .i64 (s0 + s0u1.2)) 1 fun a =>
       Lift.load (Value.int .i64) a h0u3 fun v_1 =>
       Let (IntKind.wrap .i64 (v_1 + s0u1.1) : Int) fun n =>
       seq (fun (K0u3 : Int → Heap → Prop) =>
        iteB (decide (s0u1.2 < ((y.len : Nat) : Int))) (
         idxS x0 s0 1 fun a_1 =>
         Lift.load (Value.int .i64) a_1 h0u3 fun v_2 =>
         idxS y s0u1.2 1 fun a_2 =>
         Lift.load (Value.int .i64) a_2 h0u3 fun v_3 =>
         Let (IntKind.wrap .i64 (n + (IntKind.wrap .i64 (v_2 * v_3))) : Int) fun n_1 =>
         K0u3 n_1 h0u3
        ) (
         K0u3 n h0u3
        )
       ) (fun t0u1 h0u4 =>
        idxS v (IntKind.wrap .i64 (s0 + s0u1.2)) 1 fun a_3 =>
        Lift.store a_3 (Value.int .i64 (Int.tmod t0u1 10)) h0u4 fun h0u5 =>
        Let (IntKind.wrap .i64 (Int.tdiv t0u1 10) : Int) fun carry =>
        Let (IntKind.wrap .i64 (s0u1.2 + 1) : Int) fun k =>
        K0u1 (carry, k) h0u5
       )
      ) (
       Let (IntKind.wrap .i64 (s0 + 1) : Int) fun i =>
       K0 i h0u3
      )
     )
    ) (0, 0) h0u1
   ) (
    ref01uCut v h0u1 fun v_4 h0u6 =>
    Q v_4 h0u6
   )
  ) 0 h0

def ref02uMul (x0 : Bool × Sl × Sl) (y : Bool × Sl × Sl) (h : Heap) (Q : (Bool × Sl × Sl) → Heap → Prop) : Prop :=
  mem h fun h0 =>
  ref01uMul x0.2.1 y.2.1 h0 fun v h0u1 =>
  ref01uMul x0.2.2 y.2.2 h0u1 fun v_1 h0u2 =>
  ref02uLow ((!(x0.1 == y.1)), v, v_1) h0u2 fun v_2 h0u3 =>
  Q (v_2.1, v_2.2.1, v_2.2.2) h0u3

def ref01uAdd (x0 : Sl) (y : Sl) (h : Heap) (Q : Sl → Heap → Prop) : Prop :=
  new [] h fun a h0 =>
  Let ((⟨some a, 0, 0⟩ : Sl) : Sl) fun out =>
  loop (fun (s0 : Sl × Int × Int) h0u1 (K0 : (Sl × Int × Int) → Heap → Prop) =>
   seq (fun (K0u1 : Bool → Heap → Prop) =>
    iteB (decide (s0.2.2 < ((x0.len : Nat) : Int))) (
     K0u1 true h0u1
    ) (
     iteB (decide (s0.2.2 < ((y.len : Nat) : Int))) (
      K0u1 true h0u1
     ) (
      K0u1 (decide (s0.2.1 > 0)) h0u1
     )
    )
   ) (fun t0 h0u2 =>
    iteB t0 (
     seq (fun (K0u2 : Int → Heap → Prop) =>
      iteB (decide (s0.2.2 < ((x0.len : Nat) : Int))) (
       idxS x0 s0.2.2 1 fun a_1 =>
       Lift.load (Value.int .i64) a_1 h0u2 fun v_1 =>
       Let (IntKind.wrap .i64 (s0.2.1 + v_1) : Int) fun n =>
       K0u2 n h0u2
      ) (
       K0u2 s0.2.1 h0u2
      )
     ) (fun t0u1 h0u3 =>
      seq (fun (K0u3 : Int → Heap → Prop) =>
       iteB (decide (s0.2.2 < ((y.len : Nat) : Int))) (
        idxS y s0.2.2 1 fun a_2 =>
        Lift.load (Value.int .i64) a_2 h0u3 fun v_2 =>
        Let (IntKind.wrap .i64 (t0u1 + v_2) : Int) fun n_1 =>
        K0u3 n_1 h0u3
       ) (
        K0u3 t0u1 h0u3
       )
      ) (fun t0u2 h0u4 =>
       new [Value.int .i64 (Int.tmod t0u2 10)] h0u4 fun a_3 h0u5 =>
       appendS 1 8 s0.1 (⟨some a_3, 1, 1⟩ : Sl) h0u5 fun v_4 h0u6 =>
       Let (IntKind.wrap .i64 (Int.tdiv t0u2 10) : Int) fun carry =>
       Let (IntKind.wrap .i64 (s0.2.2 + 1) : Int) fun i =>
       K0 (v_4, carry, i) h0u6
      )
     )
    ) (
     ref01uCut s0.1 h0u2 fun v_5 h0u7 =>
     Q v_5 h0u7
    )
   )
  ) (out, 0, 0) h0

def ref02uAdd (x0 : Bool × Sl × Sl) (y : Bool × Sl × Sl) (h : Heap) (Q : (Bool × Sl × Sl) → Heap → Prop) : Prop :=
  mem h fun h0 =>
  ref01uMul x0.2.1 y.2.2 h0 fun v h0u1 =>
  ref01uMul y.2.1 x0.2.2 h0u1 fun v_1 h0u2 =>
  ref01uMul x0.2.2 y.2.2 h0u2 fun v_2 h0u3 =>
  iteB (x0.1 == y.1) (
   ref01uAdd v v_1 h0u3 fun v_3 h0u4 =>
   ref02uLow (x0.1, v_3, v_2) h0u4 fun v_4 h0u5 =>
   Q (v_4.1, v_4.2.1, v_4.2.2) h0u5
  ) (
   ref01uCmp v v_1 h0u3 fun v_5 h0u6 =>
   iteB (decide (v_5 ≥ 0)) (
    ref01uSub v v_1 h0u6 fun v_6 h0u7 =>
    ref02uLow (x0.1, v_6, v_2) h0u7 fun v_7 h0u8 =>
    Q (v_7.1, v_7.2.1, v_7.2.2) h0u8
   ) (
    ref01uSub v_1 v h0u6 fun v_8 h0u9 =>
    ref02uLow (y.1, v_8, v_2) h0u9 fun v_9 h0u10 =>
    Q (v_9.1, v_9.2.1, v_9.2.2) h0u10
   )
  )

def ref12uCoef (p : Bool × Sl × Sl × Sl) (v : Int) (h : Heap) (Q : (Bool × Sl × Sl) → Heap → Prop) : Prop :=
  mem h fun h0 =>
  loop (fun (s0 : Int × Bool × Sl × Sl) h0u1 (K0 : (Int × Bool × Sl × Sl) → Heap → Prop) =>
   iteB (decide (s0.1 < ((p.2.2.2.len : Nat) : Int))) (
    idxS p.2.2.2 s0.1 4 fun a =>
    Lift.load (Value.int .i64) (a.add 0) h0u1 fun v_1 =>
    iteB (v_1 == v) (
     idxS p.2.2.2 s0.1 4 fun a_1 =>
     loadS C_bool_sl_sl 3 (a_1.add 1) h0u1 fun v_2 =>
     ref02uOf (v_2.1, v_2.2.1, v_2.2.2) h0u1 fun v_3 h0u2 =>
     Q (v_3.1, v_3.2.1, v_3.2.2) h0u2
    ) (
     Let (IntKind.wrap .i64 (s0.1 + 1) : Int) fun i =>
     K0 (i, s0.2.1, s0.2.2.1, s0.2.2.2) h0u1
    )
   ) (
    ref02uInt 0 h0u1 fun v_4 h0u3 =>
    Q (v_4.1, v_4.2.1, v_4.2.2) h0u3
   )
  ) (0, false, Sl.nil, Sl.nil) h0

def ref12uAdd (p : Bool × Sl × Sl × Sl) (k : Bool × Sl × Sl) (q : Bool × Sl × Sl × Sl) (h : Heap) (Q : (Bool × Sl × Sl × Sl) → Heap → Prop) : Prop :=
  mem h fun h0 =>
  seq (fun (K0 : (Bool × Sl × Sl × Sl) → Heap → Prop) =>
   mem h0 fun h0u2 =>
   ref02uOf (p.1, p.2.1, p.2.2.1) h0u2 fun v_15 h0u33 =>
   mem h0u33 fun h0u34 =>
   ref02uOf (q.1, q.2.1, q.2.2.1) h0u34 fun v_16 h0u35 =>
   mem h0u35 fun h0u36 =>
   ref02uMul (k.1, k.2.1, k.2.2) (v_16.1, v_16.2.1, v_16.2.2) h0u36 fun v_17 h0u37 =>
   mem h0u37 fun h0u38 =>
   ref02uAdd (v_15.1, v_15.2.1, v_15.2.2) (v_17.1, v_17.2.1, v_17.2.2) h0u38 fun v_18 h0u39 =>
   mem h0u39 fun h0u40 =>
   ref02uForm (v_18.1, v_18.2.1, v_18.2.2) h0u40 fun v_19 h0u41 =>
   mem h0u41 fun h0u42 =>
   K0 (v_19.1, v_19.2.1, v_19.2.2, Sl.nil) h0u42
  ) (fun t0 h0u1 =>
   new [] h0u1 fun a h0u43 =>
   Let ((⟨some a, 0, 0⟩ : Sl) : Sl) fun vars =>
   loop (fun (s0 : Sl × Int × Int) h0u44 (K0u1 : (Sl × Int × Int) → Heap → Prop) =>
    seq (fun (K0u2 : Bool → Heap → Prop) =>
     iteB (decide (s0.2.1 < ((p.2.2.2.len : Nat) : Int))) (
      K0u2 true h0u44
     ) (
      K0u2 (decide (s0.2.2 < ((q.2.2.2.len : Nat) : Int))) h0u44
     )
    ) (fun t0u1 h0u45 =>
     iteB t0u1 (
      seq (fun (K0u3 : Bool → Heap → Prop) =>
       iteB (s0.2.2 == ((q.2.2.2.len : Nat) : Int)) (
        K0u3 true h0u45
       ) (
        iteB (decide (s0.2.1 < ((p.2.2.2.len : Nat) : Int))) (
         idxS p.2.2.2 s0.2.1 4 fun a_1 =>
         Lift.load (Value.int .i64) (a_1.add 0) h0u45 fun v_21 =>
         idxS q.2.2.2 s0.2.2 4 fun a_2 =>
         Lift.load (Value.int .i64) (a_2.add 0) h0u45 fun v_22 =>
         K0u3 (decide (v_21 ≤ v_22)) h0u45
        ) (
         K0u3 false h0u45
        )
       )
      ) (fun t0u2 h0u46 =>
       iteB t0u2 (
        idxS p.2.2.2 s0.2.1 4 fun a_3 =>
        Lift.load (Value.int .i64) (a_3.add 0) h0u46 fun v_23 =>
        new [Value.int .i64 v_23] h0u46 fun a_4 h0u47 =>
        appendS 1 8 s0.1 (⟨some a_4, 1, 1⟩ : Sl) h0u47 fun v_25 h0u48 =>
        seq (fun (K0u4 : Int → Heap → Prop) =>
         seq (fun (K0u5 : Bool → Heap → Prop) =>
          iteB (decide (s0.2.2 < ((q.2.2.2.len : Nat) : Int))) (
           idxS p.2.2.2 s0.2.1 4 fun a_5 =>
           Lift.load (Value.int .i64) (a_5.add 0) h0u48 fun v_26 =>
           idxS q.2.2.2 s0.2.2 4 fun a_6 =>
           Lift.load (Value.int .i64) (a_6.add 0) h0u48 fun v_27 =>
           K0u5 (v_26 == v_27) h0u48
          ) (
           K0u5 false h0u48
          )
         ) (fun t0u4 h0u50 =>
          iteB t0u4 (
           Let (IntKind.wrap .i64 (s0.2.2 + 1) : Int) fun j =>
           K0u4 j h0u50
          ) (
           K0u4 s0.2.2 h0u50
          )
         )
        ) (fun t0u3 h0u49 =>
         Let (IntKind.wrap .i64 (s0.2.1 + 1) : Int) fun i =>
         K0u1 (v_25, i, t0u3) h0u49
        )
       ) (
        idxS q.2.2.2 s0.2.2 4 fun a_7 =>
        Lift.load (Value.int .i64) (a_7.add 0) h0u46 fun v_28 =>
        new [Value.int .i64 v_28] h0u46 fun a_8 h0u51 =>
        appendS 1 8 s0.1 (⟨some a_8, 1, 1⟩ : Sl) h0u51 fun v_30 h0u52 =>
        Let (IntKind.wrap .i64 (s0.2.2 + 1) : Int) fun j_1 =>
        K0u1 (v_30, s0.2.1, j_1) h0u52
       )
      )
     ) (
      loop (fun (s0u1 : Int × Bool × Sl × Sl × Sl) h0u53 (K0u6 : (Int × Bool × Sl × Sl × Sl) → Heap → Prop) =>
       iteB (decide (s0u1.1 < ((s0.1.len : Nat) : Int))) (
        seq (fun (K0u7 : (Bool × Sl × Sl × Sl) → Heap → Prop) =>
         seq (fun (K0u8 : (Bool × Sl × Sl) → Heap → Prop) =>
          idxS s0.1 s0u1.1 1 fun a_9 =>
          Lift.load (Value.int .i64) a_9 h0u53 fun v_31 =>
          idxS s0.1 s0u1.1 1 fun a_10 =>
          Lift.load (Value.int .i64) a_10 h0u53 fun v_32 =>
          mem h0u53 fun h0u56 =>
          ref12uCoef (p.1, p.2.1, p.2.2.1, p.2.2.2) v_31 h0u56 fun v_43 h0u77 =>
          (cell? h0u77 a_10 = some (Value.int .i64 v_32)) ∧
          mem h0u77 fun h0u78 =>
          ref12uCoef (q.1, q.2.1, q.2.2.1, q.2.2.2) v_32 h0u78 fun v_44 h0u79 =>
          mem h0u79 fun h0u80 =>
          ref02uMul (k.1, k.2.1, k.2.2) (v_44.1, v_44.2.1, v_44.2.2) h0u80 fun v_45 h0u81 =>
          mem h0u81 fun h0u82 =>
          ref02uAdd (v_43.1, v_43.2.1, v_43.2.2) (v_45.1, v_45.2.1, v_45.2.2) h0u82 fun v_46 h0u83 =>
          mem h0u83 fun h0u84 =>
          K0u8 (v_46.1, v_46.2.1, v_46.2.2) h0u84
         ) (fun t0u6 h0u55 =>
          iteB (decide (((t0u6.2.1.len : Nat) : Int) > 0)) (
           idxS s0.1 s0u1.1 1 fun a_11 =>
           Lift.load (Value.int .i64) a_11 h0u55 fun v_47 =>
           ref02uForm (t0u6.1, t0u6.2.1, t0u6.2.2) h0u55 fun v_48 h0u85 =>
           (cell? h0u85 a_11 = some (Value.int .i64 v_47)) ∧
           new [Value.int .i64 v_47, Value.bool v_48.1, Sl.toV v_48.2.1, Sl.toV v_48.2.2] h0u85 fun a_12 h0u86 =>
           appendS 4 64 s0u1.2.2.2.2 (⟨some a_12, 1, 1⟩ : Sl) h0u86 fun v_50 h0u87 =>
           K0u7 (s0u1.2.1, s0u1.2.2.1, s0u1.2.2.2.1, v_50) h0u87
          ) (
           K0u7 (s0u1.2.1, s0u1.2.2.1, s0u1.2.2.2.1, s0u1.2.2.2.2) h0u55
          )
         )
        ) (fun t0u5 h0u54 =>
         Let (IntKind.wrap .i64 (s0u1.1 + 1) : Int) fun n =>
         K0u6 (n, t0u5.1, t0u5.2.1, t0u5.2.2.1, t0u5.2.2.2) h0u54
        )
       ) (
        Q (s0u1.2.1, s0u1.2.2.1, s0u1.2.2.2.1, s0u1.2.2.2.2) h0u53
       )
      ) (0, t0.1, t0.2.1, t0.2.2.1, t0.2.2.2) h0u45
     )
    )
   ) (vars, 0, 0) h0u43
  )

def ref12uSame (p : Bool × Sl × Sl × Sl) (q : Bool × Sl × Sl × Sl) (h : Heap) (Q : Bool → Heap → Prop) : Prop :=
  mem h fun h0 =>
  seq (fun (K0 : Bool → Heap → Prop) =>
   ref02uSame (p.1, p.2.1, p.2.2.1) (q.1, q.2.1, q.2.2.1) h0 fun v h0u2 =>
   iteB (!v) (
    K0 true h0u2
   ) (
    K0 (((p.2.2.2.len : Nat) : Int) != ((q.2.2.2.len : Nat) : Int)) h0u2
   )
  ) (fun t0 h0u1 =>
   iteB t0 (
    Q false h0u1
   ) (
    loop (fun (s0 : Int) h0u3 (K0u1 : Int → Heap → Prop) =>
     iteB (decide (s0 < ((p.2.2.2.len : Nat) : Int))) (
      seq (fun (K0u2 : Bool → Heap → Prop) =>
       idxS p.2.2.2 s0 4 fun a =>
       Lift.load (Value.int .i64) (a.add 0) h0u3 fun v_1 =>
       idxS q.2.2.2 s0 4 fun a_1 =>
       Lift.load (Value.int .i64) (a_1.add 0) h0u3 fun v_2 =>
       iteB (v_1 != v_2) (
        K0u2 true h0u3
       ) (
        idxS p.2.2.2 s0 4 fun a_2 =>
        loadS C_bool_sl_sl 3 (a_2.add 1) h0u3 fun v_3 =>
        idxS q.2.2.2 s0 4 fun a_3 =>
        loadS C_bool_sl_sl 3 (a_3.add 1) h0u3 fun v_4 =>
        ref02uSame (v_3.1, v_3.2.1, v_3.2.2) (v_4.1, v_4.2.1, v_4.2.2) h0u3 fun v_5 h0u5 =>
        K0u2 (!v_5) h0u5
       )
      ) (fun t0u1 h0u4 =>
       iteB t0u1 (
        Q false h0u4
       ) (
        Let (IntKind.wrap .i64 (s0 + 1) : Int) fun i =>
        K0u1 i h0u4
       )
      )
     ) (
      Q true h0u3
     )
    ) 0 h0u1
   )
  )

def ratio_Cmp (x0 : Bool × Sl × Sl) (y : Bool × Sl × Sl) (h : Heap) (Q : Int → Heap → Prop) : Prop :=
  mem h fun h0 =>
  ratio_cross (x0.1, x0.2.1, x0.2.2) (y.1, y.2.1, y.2.2) h0 fun v h0u1 =>
  mem h0u1 fun h0u2 =>
  ratio_sum (v.1.1, v.1.2) ((!v.2.1), v.2.2) h0u2 fun v_1 h0u3 =>
  mem h0u3 fun h0u4 =>
  iteB (((v_1.2.len : Nat) : Int) == 0) (
   Q 0 h0u4
  ) (
   iteB v_1.1 (
    Q (-1) h0u4
   ) (
    Q 1 h0u4
   )
  )

def linear_Same_c1 (x0 : Int × Bool × Sl × Sl) (y : Int × Bool × Sl × Sl) (h : Heap) (Q : Bool → Heap → Prop) : Prop :=
  mem h fun h0 =>
  seq (fun (K0 : Bool → Heap → Prop) =>
   iteB (x0.1 == y.1) (
    ratio_Cmp (x0.2.1, x0.2.2.1, x0.2.2.2) (y.2.1, y.2.2.1, y.2.2.2) h0 fun v h0u2 =>
    K0 (v == 0) h0u2
   ) (
    K0 false h0
   )
  ) (fun t0 h0u1 =>
   Q t0 h0u1
  )

def slices_EqualFunc_api_Mono_api_Mono_api_Mono_api_Mono__linear_Same_c1 (s1 : Sl) (s2 : Sl) (h : Heap) (Q : Bool → Heap → Prop) : Prop :=
  iteB (((s1.len : Nat) : Int) != ((s2.len : Nat) : Int)) (
   Q false h
  ) (
   loop (fun (s0 : Int) h0 (K0 : Int → Heap → Prop) =>
    iteB (decide (s0 < ((s1.len : Nat) : Int))) (
     idxS s1 s0 4 fun a =>
     loadS C_i64ubool_sl_sl 4 a h0 fun v =>
     mem h0 fun h0u1 =>
     idxS s2 s0 4 fun a_1 =>
     loadS C_i64ubool_sl_sl 4 a_1 h0u1 fun v_1 =>
     mem h0u1 fun h0u2 =>
     linear_Same_c1 (v.1, v.2.1, v.2.2.1, v.2.2.2) (v_1.1, v_1.2.1, v_1.2.2.1, v_1.2.2.2) h0u2 fun v_2 h0u3 =>
     iteB (!v_2) (
      Q false h0u3
     ) (
      K0 (IntKind.wrap .i64 (s0 + 1)) h0u3
     )
    ) (
     Q true h0
    )
   ) 0 h
  )

def linear_Same (p : Bool × Sl × Sl × Sl) (q : Bool × Sl × Sl × Sl) (h : Heap) (Q : Bool → Heap → Prop) : Prop :=
  mem h fun h0 =>
  seq (fun (K0 : Bool → Heap → Prop) =>
   ratio_Cmp (p.1, p.2.1, p.2.2.1) (q.1, q.2.1, q.2.2.1) h0 fun v h0u2 =>
   iteB (v == 0) (
    slices_EqualFunc_api_Mono_api_Mono_api_Mono_api_Mono__linear_Same_c1 p.2.2.2 q.2.2.2 h0u2 fun v_1 h0u3 =>
    K0 v_1 h0u3
   ) (
    K0 false h0u2
   )
  ) (fun t0 h0u1 =>
   Q t0 h0u1
  )

def linear_Value_c1 (m0 : Int × Bool × Sl × Sl) (c0 : Addr) (h : Heap) (Q : Bool → Heap → Prop) : Prop :=
  mem h fun h0 =>
  seq (fun (K0 : Bool → Heap → Prop) =>
   iteB (decide (m0.1 < 0)) (
    K0 true h0
   ) (
    Lift.load Sl.toV c0 h0 fun v =>
    K0 (decide (m0.1 ≥ ((v.len : Nat) : Int))) h0
   )
  ) (fun t0 h0u1 =>
   Q t0 h0u1
  )

def slices_IndexFunc_api_Mono_api_Mono__linear_Value_c1 (s0 : Sl) (f_c : Addr) (h : Heap) (Q : Int → Heap → Prop) : Prop :=
  loop (fun (s0u1 : Int) h0 (K0 : Int → Heap → Prop) =>
   iteB (decide (s0u1 < ((s0.len : Nat) : Int))) (
    idxS s0 s0u1 4 fun a =>
    loadS C_i64ubool_sl_sl 4 a h0 fun v =>
    linear_Value_c1 (v.1, v.2.1, v.2.2.1, v.2.2.2) f_c h0 fun v_1 h0u1 =>
    iteB v_1 (
     Q s0u1 h0u1
    ) (
     K0 (IntKind.wrap .i64 (s0u1 + 1)) h0u1
    )
   ) (
    Q (-1) h0
   )
  ) 0 h

def slices_ContainsFunc_api_Mono_api_Mono__linear_Value_c1 (s0 : Sl) (f_c : Addr) (h : Heap) (Q : Bool → Heap → Prop) : Prop :=
  slices_IndexFunc_api_Mono_api_Mono__linear_Value_c1 s0 f_c h fun v h0 =>
  Q (decide (v ≥ 0)) h0

def linear_Value (b : (Option Addr)) (p : Bool × Sl × Sl × Sl) (reals : Sl) (h : Heap) (Q : ((Bool × Sl × Sl) × Int) → Heap → Prop) : Prop :=
  mem h fun h0 =>
  new [Sl.toV reals] h0 fun reals_1 h0u1 =>
  mem h0u1 fun h0u2 =>
  slices_ContainsFunc_api_Mono_api_Mono__linear_Value_c1 p.2.2.2 reals_1 h0u2 fun v h0u3 =>
  iteB v (
   Q ((false, Sl.nil, Sl.nil), 2) h0u3
  ) (
   mem h0u3 fun h0u4 =>
   loop (fun (s0 : Int × Bool × Sl × Sl) h0u5 (K0 : (Int × Bool × Sl × Sl) → Heap → Prop) =>
    iteB (decide (s0.1 < ((p.2.2.2.len : Nat) : Int))) (
     idxS p.2.2.2 s0.1 4 fun a =>
     loadS C_i64ubool_sl_sl 4 a h0u5 fun v_1 =>
     mem h0u5 fun h0u6 =>
     Lift.load Sl.toV reals_1 h0u6 fun v_2 =>
     idxS v_2 v_1.1 3 fun a_1 =>
     loadS C_bool_sl_sl 3 a_1 h0u6 fun v_3 =>
     ratio_Mul b (v_1.2.1, v_1.2.2.1, v_1.2.2.2) (v_3.1, v_3.2.1, v_3.2.2) h0u6 fun v_4 h0u7 =>
     ratio_Add b (s0.2.1, s0.2.2.1, s0.2.2.2) (v_4.1, v_4.2.1, v_4.2.2) h0u7 fun v_5 h0u8 =>
     K0 (IntKind.wrap .i64 (s0.1 + 1), v_5.1, v_5.2.1, v_5.2.2) h0u8
    ) (
     nat_Bench_Over b h0u5 fun v_6 h0u9 =>
     iteB v_6 (
      Q ((false, Sl.nil, Sl.nil), 6) h0u9
     ) (
      Q ((s0.2.1, s0.2.2.1, s0.2.2.2), 0) h0u9
     )
    )
   ) (0, p.1, p.2.1, p.2.2.1) h0u4
  )

def ref12uValue (p : Bool × Sl × Sl × Sl) (reals : Sl) (h : Heap) (Q : (Bool × Sl × Sl) → Heap → Prop) : Prop :=
  mem h fun h0 =>
  ref02uOf (p.1, p.2.1, p.2.2.1) h0 fun v h0u1 =>
  mem h0u1 fun h0u2 =>
  loop (fun (s0 : Int × Bool × Sl × Sl) h0u3 (K0 : (Int × Bool × Sl × Sl) → Heap → Prop) =>
   iteB (decide (s0.1 < ((p.2.2.2.len : Nat) : Int))) (
    idxS p.2.2.2 s0.1 4 fun a =>
    loadS C_bool_sl_sl 3 (a.add 1) h0u3 fun v_1 =>
    idxS p.2.2.2 s0.1 4 fun a_1 =>
    Lift.load (Value.int .i64) (a_1.add 0) h0u3 fun v_2 =>
    idxS reals v_2 3 fun a_2 =>
    loadS C_bool_sl_sl 3 a_2 h0u3 fun v_3 =>
    ref02uOf (v_1.1, v_1.2.1, v_1.2.2) h0u3 fun v_4 h0u4 =>
    (cell? h0u4 (a_1.add 0) = some (Value.int .i64 v_2)) ∧
    (cells? h0u4 a_2 3 0 = some [Value.bool v_3.1, Sl.toV v_3.2.1, Sl.toV v_3.2.2]) ∧
    ref02uOf (v_3.1, v_3.2.1, v_3.2.2) h0u4 fun v_5 h0u5 =>
    ref02uMul (v_4.1, v_4.2.1, v_4.2.2) (v_5.1, v_5.2.1, v_5.2.2) h0u5 fun v_6 h0u6 =>
    ref02uAdd (s0.2.1, s0.2.2.1, s0.2.2.2) (v_6.1, v_6.2.1, v_6.2.2) h0u6 fun v_7 h0u7 =>
    Let (IntKind.wrap .i64 (s0.1 + 1) : Int) fun i =>
    K0 (i, v_7.1, v_7.2.1, v_7.2.2) h0u7
   ) (
    Q (s0.2.1, s0.2.2.1, s0.2.2.2) h0u3
   )
  ) (0, v.1, v.2.1, v.2.2) h0u2

def law12uLinearTold (p : Bool × Sl × Sl × Sl) (q : Bool × Sl × Sl × Sl) (k : Bool × Sl × Sl) (reals : Sl) (v : Int) (h : Heap) (Q : Bool → Heap → Prop) : Prop :=
  mem h fun h0 =>
  law12uspeaks h0 fun v_1 h0u1 =>
  iteB (!v_1) (
   Q false h0u1
  ) (
   seq (fun (K0 : Bool → Heap → Prop) =>
    iteB (decide (((p.2.2.2.len : Nat) : Int) > 50)) (
     K0 true h0u1
    ) (
     K0 (decide (((reals.len : Nat) : Int) > 50)) h0u1
    )
   ) (fun t0 h0u2 =>
    iteB t0 (
     Q true h0u2
    ) (
     linear_Right (p.1, p.2.1, p.2.2.1, p.2.2.2) h0u2 fun v_2 h0u3 =>
     ref12uRight (p.1, p.2.1, p.2.2.1, p.2.2.2) h0u3 fun v_3 h0u4 =>
     iteB (!(v_2 == v_3)) (
      Q false h0u4
     ) (
      seq (fun (K0u1 : Bool → Heap → Prop) =>
       new [Value.bool p.1, Sl.toV p.2.1, Sl.toV p.2.2.1, Sl.toV p.2.2.2, Value.bool q.1, Sl.toV q.2.1, Sl.toV q.2.2.1, Sl.toV q.2.2.2, Value.bool k.1, Sl.toV k.2.1, Sl.toV k.2.2, Sl.toV Sl.nil] h0u4 fun a h0u6 =>
       law12uOdd (⟨some a, 3, 3⟩ : Sl) h0u6 fun v_5 h0u7 =>
       iteB v_5 (
        K0u1 true h0u7
       ) (
        law02uGreat reals h0u7 fun v_6 h0u8 =>
        K0u1 v_6 h0u8
       )
      ) (fun t0u1 h0u5 =>
       iteB t0u1 (
        Q true h0u5
       ) (
        loop (fun (s0 : Int) h0u9 (K0u2 : Int → Heap → Prop) =>
         iteB (decide (s0 < ((reals.len : Nat) : Int))) (
          idxS reals s0 3 fun a_1 =>
          loadS C_bool_sl_sl 3 a_1 h0u9 fun v_7 =>
          mem h0u9 fun h0u10 =>
          ref02uRight (v_7.1, v_7.2.1, v_7.2.2) h0u10 fun v_8 h0u11 =>
          iteB (!v_8) (
           Q true h0u11
          ) (
           K0u2 (IntKind.wrap .i64 (s0 + 1)) h0u11
          )
         ) (
          seq (fun (K0u3 : ((Option Addr) × Bool × Sl × Sl) → Heap → Prop) =>
           mem h0u9 fun h0u13 =>
           nat_New 1000 h0u13 fun v_12 h0u20 =>
           mem h0u20 fun h0u21 =>
           ref02uOf (k.1, k.2.1, k.2.2) h0u21 fun v_13 h0u22 =>
           mem h0u22 fun h0u23 =>
           K0u3 (v_12, v_13.1, v_13.2.1, v_13.2.2) h0u23
          ) (fun t0u2 h0u12 =>
           seq (fun (K0u4 : Bool → Heap → Prop) =>
            linear_Add t0u2.1 (p.1, p.2.1, p.2.2.1, p.2.2.2) (k.1, k.2.1, k.2.2) (q.1, q.2.1, q.2.2.1, q.2.2.2) h0u12 fun v_14 h0u25 =>
            ref12uAdd (p.1, p.2.1, p.2.2.1, p.2.2.2) (t0u2.2.1, t0u2.2.2.1, t0u2.2.2.2) (q.1, q.2.1, q.2.2.1, q.2.2.2) h0u25 fun v_15 h0u26 =>
            ref12uSame (v_14.1, v_14.2.1, v_14.2.2.1, v_14.2.2.2) (v_15.1, v_15.2.1, v_15.2.2.1, v_15.2.2.2) h0u26 fun v_16 h0u27 =>
            iteB (!v_16) (
             K0u4 true h0u27
            ) (
             linear_Scale t0u2.1 (k.1, k.2.1, k.2.2) (p.1, p.2.1, p.2.2.1, p.2.2.2) h0u27 fun v_17 h0u28 =>
             ref12uAdd (false, Sl.nil, Sl.nil, Sl.nil) (t0u2.2.1, t0u2.2.2.1, t0u2.2.2.2) (p.1, p.2.1, p.2.2.1, p.2.2.2) h0u28 fun v_18 h0u29 =>
             ref12uSame (v_17.1, v_17.2.1, v_17.2.2.1, v_17.2.2.2) (v_18.1, v_18.2.1, v_18.2.2.1, v_18.2.2.2) h0u29 fun v_19 h0u30 =>
             iteB (!v_19) (
              K0u4 true h0u30
             ) (
              linear_Same (p.1, p.2.1, p.2.2.1, p.2.2.2) (q.1, q.2.1, q.2.2.1, q.2.2.2) h0u30 fun v_20 h0u31 =>
              ref12uSame (p.1, p.2.1, p.2.2.1, p.2.2.2) (q.1, q.2.1, q.2.2.1, q.2.2.2) h0u31 fun v_21 h0u32 =>
              iteB (!(v_20 == v_21)) (
               K0u4 true h0u32
              ) (
               iteB (decide (v ≥ 0)) (
                linear_Of v h0u32 fun v_22 h0u33 =>
                ratio_Of 1 h0u33 fun v_23 h0u34 =>
                new [Value.int .i64 v, Value.bool v_23.1, Sl.toV v_23.2.1, Sl.toV v_23.2.2] h0u34 fun a_2 h0u35 =>
                ref12uSame (v_22.1, v_22.2.1, v_22.2.2.1, v_22.2.2.2) (false, Sl.nil, Sl.nil, (⟨some a_2, 1, 1⟩ : Sl)) h0u35 fun v_25 h0u36 =>
                K0u4 (!v_25) h0u36
               ) (
                K0u4 false h0u32
               )
              )
             )
            )
           ) (fun t0u3 h0u24 =>
            iteB t0u3 (
             Q false h0u24
            ) (
             linear_Value t0u2.1 (p.1, p.2.1, p.2.2.1, p.2.2.2) reals h0u24 fun v_26 h0u37 =>
             mem h0u37 fun h0u38 =>
             seq (fun (K0u5 : Bool → Heap → Prop) =>
              iteB (decide (((p.2.2.2.len : Nat) : Int) > 0)) (
               idxS p.2.2.2 (IntKind.wrap .i64 (((p.2.2.2.len : Nat) : Int) - 1)) 4 fun a_3 =>
               Lift.load (Value.int .i64) (a_3.add 0) h0u38 fun v_27 =>
               K0u5 (decide (v_27 ≥ ((reals.len : Nat) : Int))) h0u38
              ) (
               K0u5 false h0u38
              )
             ) (fun t0u4 h0u39 =>
              iteB t0u4 (
               seq (fun (K0u6 : Bool → Heap → Prop) =>
                iteB (v_26.2 == 2) (
                 ref02uSame (v_26.1.1, v_26.1.2.1, v_26.1.2.2) (false, Sl.nil, Sl.nil) h0u39 fun v_28 h0u41 =>
                 K0u6 v_28 h0u41
                ) (
                 K0u6 false h0u39
                )
               ) (fun t0u5 h0u40 =>
                Q t0u5 h0u40
               )
              ) (
               seq (fun (K0u7 : Bool → Heap → Prop) =>
                iteB (v_26.2 == 0) (
                 ref12uValue (p.1, p.2.1, p.2.2.1, p.2.2.2) reals h0u39 fun v_29 h0u43 =>
                 ref02uForm (v_29.1, v_29.2.1, v_29.2.2) h0u43 fun v_30 h0u44 =>
                 ref02uSame (v_26.1.1, v_26.1.2.1, v_26.1.2.2) (v_30.1, v_30.2.1, v_30.2.2) h0u44 fun v_31 h0u45 =>
                 K0u7 v_31 h0u45
                ) (
                 K0u7 false h0u39
                )
               ) (fun t0u6 h0u42 =>
                Q t0u6 h0u42
               )
              )
             )
            )
           )
          )
         )
        ) 0 h0u5
       )
      )
     )
    )
   )
  )
end Go.Sh

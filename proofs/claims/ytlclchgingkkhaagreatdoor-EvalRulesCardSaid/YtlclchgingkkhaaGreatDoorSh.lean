/-
  Laws that the proof of this claim's statement leans on, each proved under the conditions that it states.
-/
import Derived.Test.YtlclchgingkkhaaGreatDoorFwC
set_option linter.unusedVariables false
set_option linter.unusedSimpArgs false
namespace Go.Sh
open Go Go.Lift
def C_bool_bool_sl_sl (x : Bool × Bool × Sl × Sl) : List Value := [Value.bool x.1, Value.bool x.2.1, Sl.toV x.2.2.1, Sl.toV x.2.2.2]
def C_bool_sl (x : Bool × Sl) : List Value := [Value.bool x.1, Sl.toV x.2]
def C_bool_sl_sl (x : Bool × Sl × Sl) : List Value := [Value.bool x.1, Sl.toV x.2.1, Sl.toV x.2.2]
def C_i64ui64ui64ui64 (x : Int × Int × Int × Int) : List Value := [Value.int .i64 x.1, Value.int .i64 x.2.1, Value.int .i64 x.2.2.1, Value.int .i64 x.2.2.2]
def C_i64ui64usl_bool_sl_sl (x : Int × Int × Sl × Bool × Sl × Sl) : List Value := [Value.int .i64 x.1, Value.int .i64 x.2.1, Sl.toV x.2.2.1, Value.bool x.2.2.2.1, Sl.toV x.2.2.2.2.1, Sl.toV x.2.2.2.2.2]
def C_sl_sl_sl_sl_bool_bool (x : Sl × Sl × Sl × Sl × Bool × Bool) : List Value := [Sl.toV x.1, Sl.toV x.2.1, Sl.toV x.2.2.1, Sl.toV x.2.2.2.1, Value.bool x.2.2.2.2.1, Value.bool x.2.2.2.2.2]
abbrev g_math_bits_deBruijn32tab : Nat := 0
def nat_trim (x0 : Sl) (h : Heap) (Q : Sl → Heap → Prop) : Prop :=
  loop (fun (s0 : Sl) h0 (K0 : Sl → Heap → Prop) =>
   seq (fun (K0u1 : Bool → Heap → Prop) =>
    iteB (decide (((s0.len : Nat) : Int) > 0)) (
     idxS s0 (IntKind.wrap .i64 (((s0.len : Nat) : Int) - 1)) 1 fun a =>
     Lift.load (Value.int .u32) a h0 fun v =>
     K0u1 (v == 0) h0
    ) (
     K0u1 false h0
    )
   ) (fun t0 h0u1 =>
    iteB t0 (
     sliceOf s0 none (some (IntKind.wrap .i64 (((s0.len : Nat) : Int) - 1))) none 1 fun v_1 =>
     K0 v_1 h0u1
    ) (
     Q s0 h0u1
    )
   )
  ) x0 h
def nat_Of (n : Int) (h : Heap) (Q : Sl → Heap → Prop) : Prop :=
  new [Value.int .u32 (IntKind.wrap .u32 n), Value.int .u32 (IntKind.wrap .u32 (Int.fdiv n (2 ^ (min (Int.toNat 32) (IntKind.bits .u64)))))] h fun a h0 =>
  nat_trim (⟨some a, 2, 2⟩ : Sl) h0 fun v_1 h0u1 =>
  Q v_1 h0u1
def ratio_Of (n : Int) (h : Heap) (Q : (Bool × Sl × Sl) → Heap → Prop) : Prop :=
  mem h fun h0 =>
  Let (IntKind.wrap .u64 n : Int) fun size =>
  seq (fun (K0 : Int → Heap → Prop) =>
   iteB (decide (n < 0)) (
    Let (IntKind.wrap .u64 (0 - size) : Int) fun size_1 =>
    K0 size_1 h0
   ) (
    K0 size h0
   )
  ) (fun t0 h0u1 =>
   nat_Of t0 h0u1 fun v h0u2 =>
   Q (decide (n < 0), v, Sl.nil) h0u2
  )
def nat_New (limbs : Int) (h : Heap) (Q : ((Option Addr)) → Heap → Prop) : Prop :=
  new [Value.int .i64 (if 1 > limbs then 1 else limbs), Value.bool false] h fun a h0 =>
  Q (some a) h0
def term_New (bools : Int) (reals : Int) (h : Heap) (Q : ((Option Addr)) → Heap → Prop) : Prop :=
  newM h fun v h0 =>
  setM .i64 (Value.int .i64) v 1 (if 0 > bools then 0 else bools) h0 fun h0u1 =>
  setM .i64 (Value.int .i64) v 2 (if 0 > reals then 0 else reals) h0u1 fun h0u2 =>
  new [Value.map v, Sl.toV Sl.nil, Sl.toV Sl.nil, Sl.toV Sl.nil] h0u2 fun a h0u3 =>
  Q (some a) h0u3
def term_shapes (op : Int) (h : Heap) (Q : ((Int × Int × Int × Int) × Bool) → Heap → Prop) : Prop :=
  mem h fun h0 =>
  seq (fun (K0 : Bool → Heap → Prop) =>
   iteB (op == 1) (
    K0 true h0
   ) (
    iteB (op == 2) (
     K0 true h0
    ) (
     K0 (op == 3) h0
    )
   )
  ) (fun t0 h0u1 =>
   iteB t0 (
    Q ((0, 0, 0, 1), true) h0u1
   ) (
    seq (fun (K0u1 : Bool → Heap → Prop) =>
     iteB (op == 4) (
      K0u1 true h0u1
     ) (
      K0u1 (op == 5) h0u1
     )
    ) (fun t0u1 h0u2 =>
     iteB t0u1 (
      Q ((0, 0, 0, 2), true) h0u2
     ) (
      iteB (op == 6) (
       Q ((1, 1, 1, 1), true) h0u2
      ) (
       seq (fun (K0u2 : Bool → Heap → Prop) =>
        iteB (decide (op ≥ 7)) (
         K0u2 (decide (op ≤ 10)) h0u2
        ) (
         K0u2 false h0u2
        )
       ) (fun t0u2 h0u3 =>
        iteB t0u2 (
         Q ((2, 1073741824, 1, 1), true) h0u3
        ) (
         iteB (op == 11) (
          Q ((3, 3, 0, 0), true) h0u3
         ) (
          seq (fun (K0u3 : Bool → Heap → Prop) =>
           iteB (op == 12) (
            K0u3 true h0u3
           ) (
            K0u3 (op == 13) h0u3
           )
          ) (fun t0u3 h0u4 =>
           iteB t0u3 (
            Q ((2, 1073741824, 0, 1), true) h0u4
           ) (
            seq (fun (K0u4 : Bool → Heap → Prop) =>
             iteB (decide (op ≥ 14)) (
              K0u4 (decide (op ≤ 17)) h0u4
             ) (
              K0u4 false h0u4
             )
            ) (fun t0u4 h0u5 =>
             iteB t0u4 (
              Q ((2, 1073741824, 2, 1), true) h0u5
             ) (
              iteB (op == 19) (
               Q ((1, 1073741824, 2, 2), true) h0u5
              ) (
               seq (fun (K0u5 : Bool → Heap → Prop) =>
                iteB (op == 18) (
                 K0u5 true h0u5
                ) (
                 iteB (op == 20) (
                  K0u5 true h0u5
                 ) (
                  K0u5 (op == 21) h0u5
                 )
                )
               ) (fun t0u5 h0u6 =>
                iteB t0u5 (
                 Q ((2, 1073741824, 2, 2), true) h0u6
                ) (
                 Q ((0, 0, 0, 0), false) h0u6
                )
               )
              )
             )
            )
           )
          )
         )
        )
       )
      )
     )
    )
   )
  )
def nat_Right (x0 : Sl) (h : Heap) (Q : Bool → Heap → Prop) : Prop :=
  nat_trim x0 h fun v h0 =>
  Q (((v.len : Nat) : Int) == ((x0.len : Nat) : Int)) h0
def ratio_one (h : Heap) (Q : Sl → Heap → Prop) : Prop :=
  new [Value.int .u32 1] h fun a h0 =>
  Q (⟨some a, 1, 1⟩ : Sl) h0
def slices_Equal_api_Nat_uint32 (s1 : Sl) (s2 : Sl) (h : Heap) (Q : Bool → Heap → Prop) : Prop :=
  iteB (((s1.len : Nat) : Int) != ((s2.len : Nat) : Int)) (
   Q false h
  ) (
   loop (fun (s0 : Int) h0 (K0 : Int → Heap → Prop) =>
    iteB (decide (s0 < ((s1.len : Nat) : Int))) (
     idxS s1 s0 1 fun a =>
     Lift.load (Value.int .u32) a h0 fun v =>
     idxS s2 s0 1 fun a_1 =>
     Lift.load (Value.int .u32) a_1 h0 fun v_1 =>
     iteB (v != v_1) (
      Q false h0
     ) (
      K0 (IntKind.wrap .i64 (s0 + 1)) h0
     )
    ) (
     Q true h0
    )
   ) 0 h
  )
def ratio_isOne (x0 : Sl) (h : Heap) (Q : Bool → Heap → Prop) : Prop :=
  ratio_one h fun v h0 =>
  slices_Equal_api_Nat_uint32 x0 v h0 fun v_1 h0u1 =>
  Q v_1 h0u1
def ratio_free (h : Heap) (Q : ((Option Addr)) → Heap → Prop) : Prop :=
  nat_New 16777216 h fun v h0 =>
  Q v h0
def ratio_den (x0 : Bool × Sl × Sl) (h : Heap) (Q : Sl → Heap → Prop) : Prop :=
  mem h fun h0 =>
  iteB (((x0.2.2.len : Nat) : Int) == 0) (
   ratio_one h0 fun v h0u1 =>
   Q v h0u1
  ) (
   Q x0.2.2 h0
  )
def nat_small (x0 : Sl) (h : Heap) (Q : (Int × Bool) → Heap → Prop) : Prop :=
  nat_trim x0 h fun v h0 =>
  Let (IntKind.wrap .i64 (((v.len : Nat) : Int) - 1) : Int) fun i =>
  loop (fun (s0 : Int × Int) h0u1 (K0 : (Int × Int) → Heap → Prop) =>
   iteB (decide (s0.2 ≥ 0)) (
    idxS v s0.2 1 fun a =>
    Lift.load (Value.int .u32) a h0u1 fun v_1 =>
    Let (IntKind.wrap .u64 (((BitVec.ofInt (IntKind.bits .u64) (IntKind.wrap .u64 (s0.1 * 2 ^ (min (Int.toNat 32) (IntKind.bits .u64)))) ||| BitVec.ofInt (IntKind.bits .u64) (IntKind.wrap .u64 v_1)).toNat : Int)) : Int) fun n =>
    Let (IntKind.wrap .i64 (s0.2 - 1) : Int) fun i_1 =>
    K0 (n, i_1) h0u1
   ) (
    Let (decide (((v.len : Nat) : Int) ≤ 2) : Bool) fun ok =>
    Q (s0.1, ok) h0u1
   )
  ) (0, i) h0
def math_bits_TrailingZeros32 (x0 : Int) (h : Heap) (Q : Int → Heap → Prop) : Prop :=
  iteB (x0 == 0) (
   Q 32 h
  ) (
   ((0 : Int) ≤ ((Int.fdiv (IntKind.wrap .u32 ((IntKind.wrap .u32 (((BitVec.ofInt (IntKind.bits .u32) x0 &&& BitVec.ofInt (IntKind.bits .u32) (IntKind.wrap .u32 (0 - x0))).toNat : Int))) * 125613361)) (2 ^ (min (Int.toNat 27) (IntKind.bits .u32)))) : Int) ∧ ((Int.fdiv (IntKind.wrap .u32 ((IntKind.wrap .u32 (((BitVec.ofInt (IntKind.bits .u32) x0 &&& BitVec.ofInt (IntKind.bits .u32) (IntKind.wrap .u32 (0 - x0))).toNat : Int))) * 125613361)) (2 ^ (min (Int.toNat 27) (IntKind.bits .u32)))) : Int) < 32) ∧
   Lift.load (Value.int .u8) ((⟨g_math_bits_deBruijn32tab, 0, none⟩ : Addr).add (Int.toNat (Int.fdiv (IntKind.wrap .u32 ((IntKind.wrap .u32 (((BitVec.ofInt (IntKind.bits .u32) x0 &&& BitVec.ofInt (IntKind.bits .u32) (IntKind.wrap .u32 (0 - x0))).toNat : Int))) * 125613361)) (2 ^ (min (Int.toNat 27) (IntKind.bits .u32)))) * 1)) h fun v =>
   Q (IntKind.wrap .i64 v) h
  )
def slices_Clone_api_Nat_uint32 (s0 : Sl) (h : Heap) (Q : Sl → Heap → Prop) : Prop :=
  iteB s0.a.isNone (
   Q Sl.nil h
  ) (
   new [] h fun a h0 =>
   appendS 1 4 (⟨some a, 0, 0⟩ : Sl) s0 h0 fun v_1 h0u1 =>
   Q v_1 h0u1
  )
def nat_halve (x0 : Sl) (h : Heap) (Q : (Sl × Int) → Heap → Prop) : Prop :=
  loop (fun (s0 : Int) h0 (K0 : Int → Heap → Prop) =>
   idxS x0 (IntKind.wrap .i64 (Int.tdiv s0 32)) 1 fun a =>
   Lift.load (Value.int .u32) a h0 fun v =>
   iteB (v == 0) (
    Let (IntKind.wrap .i64 (s0 + 32) : Int) fun k =>
    K0 k h0
   ) (
    idxS x0 (IntKind.wrap .i64 (Int.tdiv s0 32)) 1 fun a_1 =>
    Lift.load (Value.int .u32) a_1 h0 fun v_1 =>
    math_bits_TrailingZeros32 v_1 h0 fun v_2 h0u1 =>
    Let (IntKind.wrap .i64 (s0 + v_2) : Int) fun k_1 =>
    sliceOf x0 (some (IntKind.wrap .i64 (Int.tdiv k_1 32))) none none 1 fun v_3 =>
    slices_Clone_api_Nat_uint32 v_3 h0u1 fun v_4 h0u2 =>
    seq (fun (K0u1 : Unit → Heap → Prop) =>
     Let (Int.tmod k_1 32 : Int) fun s0u1 =>
     iteB (decide (s0u1 > 0)) (
      loop (fun (s0u2 : Int) h0u4 (K0u2 : Int → Heap → Prop) =>
       iteB (decide (s0u2 < ((v_4.len : Nat) : Int))) (
        seq (fun (K0u3 : Unit → Heap → Prop) =>
         idxS v_4 s0u2 1 fun a_2 =>
         Lift.load (Value.int .u32) a_2 h0u4 fun v_5 =>
         (0 ≤ s0u1) ∧
         idxS v_4 s0u2 1 fun a_3 =>
         Lift.store a_3 (Value.int .u32 (Int.fdiv v_5 (2 ^ (min (Int.toNat s0u1) (IntKind.bits .u32))))) h0u4 fun h0u6 =>
         iteB (decide ((IntKind.wrap .i64 (s0u2 + 1)) < ((v_4.len : Nat) : Int))) (
          idxS v_4 s0u2 1 fun a_4 =>
          Lift.load (Value.int .u32) a_4 h0u6 fun v_6 =>
          idxS v_4 (IntKind.wrap .i64 (s0u2 + 1)) 1 fun a_5 =>
          Lift.load (Value.int .u32) a_5 h0u6 fun v_7 =>
          (0 ≤ (IntKind.wrap .i64 (32 - s0u1))) ∧
          idxS v_4 s0u2 1 fun a_6 =>
          Lift.store a_6 (Value.int .u32 (IntKind.wrap .u32 (((BitVec.ofInt (IntKind.bits .u32) v_6 ||| BitVec.ofInt (IntKind.bits .u32) (IntKind.wrap .u32 (v_7 * 2 ^ (min (Int.toNat (IntKind.wrap .i64 (32 - s0u1))) (IntKind.bits .u32))))).toNat : Int)))) h0u6 fun h0u7 =>
          K0u3 () h0u7
         ) (
          K0u3 () h0u6
         )
        ) (fun t0u1 h0u5 =>
         K0u2 (IntKind.wrap .i64 (s0u2 + 1)) h0u5
        )
       ) (
        K0u1 () h0u4
       )
      ) 0 h0u2
     ) (
      K0u1 () h0u2
     )
    ) (fun t0 h0u3 =>
     nat_trim v_4 h0u3 fun v_8 h0u8 =>
     Q (v_8, k_1) h0u8
    )
   )
  ) 0 h
def nat_sign (n : Int) (h : Heap) (Q : Int → Heap → Prop) : Prop :=
  Q (if (-1) > (if 1 < n then 1 else n) then (-1) else (if 1 < n then 1 else n)) h
def nat_Cmp (x0 : Sl) (y : Sl) (h : Heap) (Q : Int → Heap → Prop) : Prop :=
  nat_trim x0 h fun v h0 =>
  nat_trim y h0 fun v_1 h0u1 =>
  iteB (((v.len : Nat) : Int) != ((v_1.len : Nat) : Int)) (
   nat_sign (IntKind.wrap .i64 (((v.len : Nat) : Int) - ((v_1.len : Nat) : Int))) h0u1 fun v_2 h0u2 =>
   Q v_2 h0u2
  ) (
   Let (IntKind.wrap .i64 (((v.len : Nat) : Int) - 1) : Int) fun i =>
   loop (fun (s0 : Int) h0u3 (K0 : Int → Heap → Prop) =>
    iteB (decide (s0 ≥ 0)) (
     idxS v s0 1 fun a =>
     Lift.load (Value.int .u32) a h0u3 fun v_3 =>
     idxS v_1 s0 1 fun a_1 =>
     Lift.load (Value.int .u32) a_1 h0u3 fun v_4 =>
     iteB (v_3 != v_4) (
      idxS v s0 1 fun a_2 =>
      Lift.load (Value.int .u32) a_2 h0u3 fun v_5 =>
      idxS v_1 s0 1 fun a_3 =>
      Lift.load (Value.int .u32) a_3 h0u3 fun v_6 =>
      nat_sign (IntKind.wrap .i64 ((IntKind.wrap .i64 v_5) - (IntKind.wrap .i64 v_6))) h0u3 fun v_7 h0u4 =>
      Q v_7 h0u4
     ) (
      Let (IntKind.wrap .i64 (s0 - 1) : Int) fun i_1 =>
      K0 i_1 h0u3
     )
    ) (
     Q 0 h0u3
    )
   ) i h0u1
  )
def nat_minus (x0 : Sl) (y : Sl) (h : Heap) (Q : Sl → Heap → Prop) : Prop :=
  loop (fun (s0 : Sl × Int × Int) h0 (K0 : (Sl × Int × Int) → Heap → Prop) =>
   iteB (decide (s0.2.2 < ((x0.len : Nat) : Int))) (
    idxS x0 s0.2.2 1 fun a =>
    Lift.load (Value.int .u32) a h0 fun v =>
    Let (IntKind.wrap .u64 ((IntKind.wrap .u64 v) - s0.2.1) : Int) fun d =>
    seq (fun (K0u1 : Int → Heap → Prop) =>
     iteB (decide (s0.2.2 < ((y.len : Nat) : Int))) (
      idxS y s0.2.2 1 fun a_1 =>
      Lift.load (Value.int .u32) a_1 h0 fun v_1 =>
      Let (IntKind.wrap .u64 (d - (IntKind.wrap .u64 v_1)) : Int) fun d_1 =>
      K0u1 d_1 h0
     ) (
      K0u1 d h0
     )
    ) (fun t0 h0u1 =>
     new [Value.int .u32 (IntKind.wrap .u32 t0)] h0u1 fun a_2 h0u2 =>
     appendS 1 4 s0.1 (⟨some a_2, 1, 1⟩ : Sl) h0u2 fun v_3 h0u3 =>
     Let (Int.fdiv t0 (2 ^ (min (Int.toNat 63) (IntKind.bits .u64))) : Int) fun borrow =>
     K0 (v_3, borrow, IntKind.wrap .i64 (s0.2.2 + 1)) h0u3
    )
   ) (
    nat_trim s0.1 h0 fun v_4 h0u4 =>
    Q v_4 h0u4
   )
  ) (Sl.nil, 0, 0) h
def nat_times (x0 : Sl) (y : Sl) (h : Heap) (Q : Sl → Heap → Prop) : Prop :=
  Let (IntKind.wrap .i64 (((x0.len : Nat) : Int) + ((y.len : Nat) : Int)) : Int) fun t15 =>
  mkS [Value.int .u32 0] 4 t15 t15 h fun v h0 =>
  loop (fun (s0 : Int) h0u1 (K0 : Int → Heap → Prop) =>
   iteB (decide (s0 < ((x0.len : Nat) : Int))) (
    idxS x0 s0 1 fun a =>
    Lift.load (Value.int .u32) a h0u1 fun v_1 =>
    loop (fun (s0u1 : Int × Int) h0u2 (K0u1 : (Int × Int) → Heap → Prop) =>
     iteB (decide (s0u1.2 < ((y.len : Nat) : Int))) (
      idxS y s0u1.2 1 fun a_1 =>
      Lift.load (Value.int .u32) a_1 h0u2 fun v_2 =>
      idxS v (IntKind.wrap .i64 (s0 + s0u1.2)) 1 fun a_2 =>
      Lift.load (Value.int .u32) a_2 h0u2 fun v_3 =>
      Let (IntKind.wrap .u64 (s0u1.1 + (IntKind.wrap .u64 ((IntKind.wrap .u64 ((IntKind.wrap .u64 v_1) * (IntKind.wrap .u64 v_2))) + (IntKind.wrap .u64 v_3)))) : Int) fun carry =>
      idxS v (IntKind.wrap .i64 (s0 + s0u1.2)) 1 fun a_3 =>
      Lift.store a_3 (Value.int .u32 (IntKind.wrap .u32 carry)) h0u2 fun h0u3 =>
      Let (Int.fdiv carry (2 ^ (min (Int.toNat 32) (IntKind.bits .u64))) : Int) fun carry_1 =>
      K0u1 (carry_1, IntKind.wrap .i64 (s0u1.2 + 1)) h0u3
     ) (
      idxS v (IntKind.wrap .i64 (s0 + ((y.len : Nat) : Int))) 1 fun a_4 =>
      Lift.store a_4 (Value.int .u32 (IntKind.wrap .u32 s0u1.1)) h0u2 fun h0u4 =>
      K0 (IntKind.wrap .i64 (s0 + 1)) h0u4
     )
    ) (0, 0) h0u1
   ) (
    Q v h0u1
   )
  ) 0 h0
def nat_double (x0 : Sl) (k : Int) (h : Heap) (Q : Sl → Heap → Prop) : Prop :=
  Let (IntKind.wrap .i64 ((IntKind.wrap .i64 (Int.tdiv k 32)) + 1) : Int) fun t8 =>
  mkS [Value.int .u32 0] 4 t8 t8 h fun v h0 =>
  (0 ≤ (Int.tmod k 32)) ∧
  idxS v (IntKind.wrap .i64 (Int.tdiv k 32)) 1 fun a =>
  Lift.store a (Value.int .u32 (IntKind.wrap .u32 (1 * 2 ^ (min (Int.toNat (Int.tmod k 32)) (IntKind.bits .u32))))) h0 fun h0u1 =>
  nat_times x0 v h0u1 fun v_1 h0u2 =>
  nat_trim v_1 h0u2 fun v_2 h0u3 =>
  Q v_2 h0u3
def nat_common (x0 : Sl) (y : Sl) (h : Heap) (Q : Sl → Heap → Prop) : Prop :=
  nat_trim x0 h fun v h0 =>
  nat_trim y h0 fun v_1 h0u1 =>
  iteB (((v.len : Nat) : Int) == 0) (
   Q v_1 h0u1
  ) (
   iteB (((v_1.len : Nat) : Int) == 0) (
    Q v h0u1
   ) (
    seq (fun (K0 : Unit → Heap → Prop) =>
     nat_small v h0u1 fun v_2 h0u3 =>
     iteB v_2.2 (
      nat_small v_1 h0u3 fun v_3 h0u4 =>
      iteB v_3.2 (
       loop (fun (s0 : Int × Int) h0u5 (K0u1 : (Int × Int) → Heap → Prop) =>
        iteB (s0.2 != 0) (
         (s0.2 ≠ 0) ∧
         Let (Int.tmod s0.1 s0.2 : Int) fun m0 =>
         K0u1 (s0.2, m0) h0u5
        ) (
         nat_Of s0.1 h0u5 fun v_4 h0u6 =>
         Q v_4 h0u6
        )
       ) (v_2.1, v_3.1) h0u4
      ) (
       K0 () h0u4
      )
     ) (
      K0 () h0u3
     )
    ) (fun t0 h0u2 =>
     nat_halve v h0u2 fun v_5 h0u7 =>
     nat_halve v_1 h0u7 fun v_6 h0u8 =>
     loop (fun (s0u1 : Sl × Sl) h0u9 (K0u2 : (Sl × Sl) → Heap → Prop) =>
      nat_Cmp s0u1.1 s0u1.2 h0u9 fun v_7 h0u10 =>
      iteB (v_7 != 0) (
       seq (fun (K0u3 : (Sl × Sl) → Heap → Prop) =>
        nat_Cmp s0u1.1 s0u1.2 h0u10 fun v_8 h0u12 =>
        iteB (decide (v_8 < 0)) (
         K0u3 (s0u1.2, s0u1.1) h0u12
        ) (
         K0u3 (s0u1.1, s0u1.2) h0u12
        )
       ) (fun t0u1 h0u11 =>
        nat_minus t0u1.1 t0u1.2 h0u11 fun v_9 h0u13 =>
        nat_halve v_9 h0u13 fun v_10 h0u14 =>
        K0u2 (v_10.1, t0u1.2) h0u14
       )
      ) (
       nat_double s0u1.1 (if v_6.2 < v_5.2 then v_6.2 else v_5.2) h0u10 fun v_11 h0u15 =>
       Q v_11 h0u15
      )
     ) (v_5.1, v_6.1) h0u8
    )
   )
  )
def nat_Bench_fit (b : (Option Addr)) (x0 : Sl) (h : Heap) (Q : Sl → Heap → Prop) : Prop :=
  nat_trim x0 h fun v h0 =>
  seq (fun (K0 : Unit → Heap → Prop) =>
   nilChk b fun a =>
   Lift.load Value.bool (a.add 1) h0 fun v_1 =>
   iteB v_1 (
    nilChk b fun a_1 =>
    Lift.store (a_1.add 1) (Value.bool true) h0 fun h0u2 =>
    K0 () h0u2
   ) (
    nilChk b fun a_2 =>
    Lift.load (Value.int .i64) (a_2.add 0) h0 fun v_2 =>
    nilChk b fun a_3 =>
    Lift.store (a_3.add 1) (Value.bool (decide (((v.len : Nat) : Int) > v_2))) h0 fun h0u3 =>
    K0 () h0u3
   )
  ) (fun t0 h0u1 =>
   nilChk b fun a_4 =>
   Lift.load Value.bool (a_4.add 1) h0u1 fun v_3 =>
   iteB v_3 (
    Q Sl.nil h0u1
   ) (
    slices_Clone_api_Nat_uint32 v h0u1 fun v_4 h0u4 =>
    Q v_4 h0u4
   )
  )
def nat_Bench_Gcd (b : (Option Addr)) (x0 : Sl) (y : Sl) (h : Heap) (Q : Sl → Heap → Prop) : Prop :=
  nat_common x0 y h fun v h0 =>
  nat_Bench_fit b v h0 fun v_1 h0u1 =>
  Q v_1 h0u1
def ratio_Right (x0 : Bool × Sl × Sl) (h : Heap) (Q : Bool → Heap → Prop) : Prop :=
  mem h fun h0 =>
  seq (fun (K0 : Bool → Heap → Prop) =>
   nat_Right x0.2.1 h0 fun v h0u2 =>
   iteB (!v) (
    K0 true h0u2
   ) (
    nat_Right x0.2.2 h0u2 fun v_1 h0u3 =>
    iteB (!v_1) (
     K0 true h0u3
    ) (
     ratio_isOne x0.2.2 h0u3 fun v_2 h0u4 =>
     K0 v_2 h0u4
    )
   )
  ) (fun t0 h0u1 =>
   iteB t0 (
    Q false h0u1
   ) (
    iteB (((x0.2.1.len : Nat) : Int) == 0) (
     seq (fun (K0u1 : Bool → Heap → Prop) =>
      iteB (!x0.1) (
       K0u1 (((x0.2.2.len : Nat) : Int) == 0) h0u1
      ) (
       K0u1 false h0u1
      )
     ) (fun t0u1 h0u5 =>
      Q t0u1 h0u5
     )
    ) (
     ratio_free h0u1 fun v_3 h0u6 =>
     ratio_den (x0.1, x0.2.1, x0.2.2) h0u6 fun v_4 h0u7 =>
     nat_Bench_Gcd v_3 x0.2.1 v_4 h0u7 fun v_5 h0u8 =>
     ratio_isOne v_5 h0u8 fun v_6 h0u9 =>
     Q v_6 h0u9
    )
   )
  )
def ratio_Sign (x0 : Bool × Sl × Sl) (h : Heap) (Q : Int → Heap → Prop) : Prop :=
  mem h fun h0 =>
  iteB (((x0.2.1.len : Nat) : Int) == 0) (
   Q 0 h0
  ) (
   iteB x0.1 (
    Q (-1) h0
   ) (
    Q 1 h0
   )
  )
def term_Terms_leaf (t0 : (Option Addr)) (n : Int × Int × Sl × Bool × Sl × Sl) (h : Heap) (Q : Bool → Heap → Prop) : Prop :=
  mem h fun h0 =>
  newM h0 fun v h0u1 =>
  setM .i64 (Value.int .i64) v 3 1 h0u1 fun h0u2 =>
  setM .i64 (Value.int .i64) v 4 2 h0u2 fun h0u3 =>
  seq (fun (K0 : Unit → Heap → Prop) =>
   lookM .i64 (Value.int .i64) 0 v n.1 h0u3 fun v_1 =>
   iteB v_1.2 (
    seq (fun (K0u1 : Bool → Heap → Prop) =>
     iteB (decide (n.2.1 < 0)) (
      K0u1 true h0u3
     ) (
      nilChk t0 fun a =>
      Lift.load Value.map (a.add 0) h0u3 fun v_2 =>
      lookM .i64 (Value.int .i64) 0 v_2 v_1.1 h0u3 fun v_3 =>
      K0u1 (decide (n.2.1 ≥ v_3.1)) h0u3
     )
    ) (fun t0u2 h0u5 =>
     iteB t0u2 (
      Q false h0u5
     ) (
      K0 () h0u5
     )
    )
   ) (
    iteB (n.2.1 != 0) (
     Q false h0u3
    ) (
     K0 () h0u3
    )
   )
  ) (fun t0u1 h0u4 =>
   iteB (n.1 == 5) (
    ratio_Right (n.2.2.2.1, n.2.2.2.2.1, n.2.2.2.2.2) h0u4 fun v_4 h0u6 =>
    Q v_4 h0u6
   ) (
    seq (fun (K0u2 : Bool → Heap → Prop) =>
     ratio_Sign (n.2.2.2.1, n.2.2.2.2.1, n.2.2.2.2.2) h0u4 fun v_5 h0u8 =>
     iteB (v_5 == 0) (
      iteB (((n.2.2.2.2.2.len : Nat) : Int) == 0) (
       K0u2 (!n.2.2.2.1) h0u8
      ) (
       K0u2 false h0u8
      )
     ) (
      K0u2 false h0u8
     )
    ) (fun t0u3 h0u7 =>
     Q t0u3 h0u7
    )
   )
  )
def term_Terms_there (t0 : (Option Addr)) (at0 : Int) (h : Heap) (Q : Bool → Heap → Prop) : Prop :=
  seq (fun (K0 : Bool → Heap → Prop) =>
   iteB (decide (at0 ≥ 0)) (
    nilChk t0 fun a =>
    Lift.load Sl.toV (a.add 1) h fun v =>
    K0 (decide (at0 < ((v.len : Nat) : Int))) h
   ) (
    K0 false h
   )
  ) (fun t0u1 h0 =>
   Q t0u1 h0
  )
def term_Terms_Add_c1 (k : Int) (c0 : Addr) (h : Heap) (Q : Bool → Heap → Prop) : Prop :=
  Lift.load Value.pointer c0 h fun v =>
  term_Terms_there v k h fun v_1 h0 =>
  Q (!v_1) h0
def slices_IndexFunc_int_int__term_Terms_Add_c1 (s0 : Sl) (f_c : Addr) (h : Heap) (Q : Int → Heap → Prop) : Prop :=
  loop (fun (s0u1 : Int) h0 (K0 : Int → Heap → Prop) =>
   iteB (decide (s0u1 < ((s0.len : Nat) : Int))) (
    idxS s0 s0u1 1 fun a =>
    Lift.load (Value.int .i64) a h0 fun v =>
    term_Terms_Add_c1 v f_c h0 fun v_1 h0u1 =>
    iteB v_1 (
     Q s0u1 h0u1
    ) (
     K0 (IntKind.wrap .i64 (s0u1 + 1)) h0u1
    )
   ) (
    Q (-1) h0
   )
  ) 0 h
def slices_ContainsFunc_int_int__term_Terms_Add_c1 (s0 : Sl) (f_c : Addr) (h : Heap) (Q : Bool → Heap → Prop) : Prop :=
  slices_IndexFunc_int_int__term_Terms_Add_c1 s0 f_c h fun v h0 =>
  Q (decide (v ≥ 0)) h0
def term_Terms_sorted (t0 : (Option Addr)) (n : Int × Int × Sl × Bool × Sl × Sl) (s0 : Int × Int × Int × Int) (h : Heap) (Q : Int → Heap → Prop) : Prop :=
  mem h fun h0 =>
  seq (fun (K0 : (Sl × Int × Int × Int × Int) → Heap → Prop) =>
   iteB (n.1 == 11) (
    nilChk t0 fun a =>
    Lift.load Sl.toV (a.add 2) h0 fun v =>
    idxS n.2.2.1 0 1 fun a_1 =>
    Lift.load (Value.int .i64) a_1 h0 fun v_1 =>
    idxS v v_1 1 fun a_2 =>
    Lift.load (Value.int .i64) a_2 h0 fun v_2 =>
    iteB (v_2 != 1) (
     Q 0 h0
    ) (
     sliceOf n.2.2.1 (some 1) none none 1 fun v_3 =>
     nilChk t0 fun a_3 =>
     Lift.load Sl.toV (a_3.add 2) h0 fun v_4 =>
     idxS v_3 0 1 fun a_4 =>
     Lift.load (Value.int .i64) a_4 h0 fun v_5 =>
     idxS v_4 v_5 1 fun a_5 =>
     Lift.load (Value.int .i64) a_5 h0 fun v_6 =>
     K0 (v_3, s0.1, s0.2.1, s0.2.2.1, v_6) h0
    )
   ) (
    K0 (n.2.2.1, s0.1, s0.2.1, s0.2.2.1, s0.2.2.2) h0
   )
  ) (fun t0u1 h0u1 =>
   loop (fun (s0u1 : Int × Int) h0u2 (K0u1 : (Int × Int) → Heap → Prop) =>
    iteB (decide (s0u1.2 < ((t0u1.1.len : Nat) : Int))) (
     idxS t0u1.1 s0u1.2 1 fun a_6 =>
     Lift.load (Value.int .i64) a_6 h0u2 fun v_7 =>
     seq (fun (K0u2 : Int → Heap → Prop) =>
      iteB (s0u1.1 == 0) (
       nilChk t0 fun a_7 =>
       Lift.load Sl.toV (a_7.add 2) h0u2 fun v_8 =>
       idxS v_8 v_7 1 fun a_8 =>
       Lift.load (Value.int .i64) a_8 h0u2 fun v_9 =>
       K0u2 v_9 h0u2
      ) (
       K0u2 s0u1.1 h0u2
      )
     ) (fun t0u2 h0u3 =>
      nilChk t0 fun a_9 =>
      Lift.load Sl.toV (a_9.add 2) h0u3 fun v_10 =>
      idxS v_10 v_7 1 fun a_10 =>
      Lift.load (Value.int .i64) a_10 h0u3 fun v_11 =>
      iteB (v_11 != t0u2) (
       Q 0 h0u3
      ) (
       K0u1 (t0u2, IntKind.wrap .i64 (s0u1.2 + 1)) h0u3
      )
     )
    ) (
     Q t0u1.2.2.2.2 h0u2
    )
   ) (t0u1.2.2.2.1, 0) h0u1
  )
def term_Terms_line (t0 : (Option Addr)) (n : Int × Int × Sl × Bool × Sl × Sl) (h : Heap) (Q : Bool → Heap → Prop) : Prop :=
  mem h fun h0 =>
  loop (fun (s0 : Int × Int) h0u1 (K0 : (Int × Int) → Heap → Prop) =>
   iteB (decide (s0.2 < ((n.2.2.1.len : Nat) : Int))) (
    seq (fun (K0u1 : Int → Heap → Prop) =>
     idxS n.2.2.1 s0.2 1 fun a =>
     Lift.load (Value.int .i64) a h0u1 fun v =>
     seq (fun (K0u2 : Bool → Heap → Prop) =>
      nilChk t0 fun a_1 =>
      Lift.load Sl.toV (a_1.add 3) h0u1 fun v_1 =>
      idxS v_1 v 1 fun a_2 =>
      Lift.load Value.bool a_2 h0u1 fun v_2 =>
      iteB (!v_2) (
       iteB (n.1 == 20) (
        K0u2 true h0u1
       ) (
        iteB (n.1 == 21) (
         K0u2 (decide (s0.2 > 0)) h0u1
        ) (
         K0u2 false h0u1
        )
       )
      ) (
       K0u2 false h0u1
      )
     ) (fun t0u2 h0u3 =>
      iteB t0u2 (
       Let (IntKind.wrap .i64 (s0.1 + 1) : Int) fun free =>
       K0u1 free h0u3
      ) (
       K0u1 s0.1 h0u3
      )
     )
    ) (fun t0u1 h0u2 =>
     K0 (t0u1, IntKind.wrap .i64 (s0.2 + 1)) h0u2
    )
   ) (
    seq (fun (K0u3 : Bool → Heap → Prop) =>
     iteB (s0.1 == 0) (
      K0u3 true h0u1
     ) (
      iteB (s0.1 == 1) (
       K0u3 (n.1 == 20) h0u1
      ) (
       K0u3 false h0u1
      )
     )
    ) (fun t0u3 h0u4 =>
     Q t0u3 h0u4
    )
   )
  ) (0, 0) h0
def slices_Clone_int_int (s0 : Sl) (h : Heap) (Q : Sl → Heap → Prop) : Prop :=
  iteB s0.a.isNone (
   Q Sl.nil h
  ) (
   new [] h fun a h0 =>
   appendS 1 8 (⟨some a, 0, 0⟩ : Sl) s0 h0 fun v_1 h0u1 =>
   Q v_1 h0u1
  )
def term_Terms_Add (t0 : (Option Addr)) (n : Int × Int × Sl × Bool × Sl × Sl) (h : Heap) (Q : (Int × Int) → Heap → Prop) : Prop :=
  new [Value.pointer t0] h fun t0u1 h0 =>
  mem h0 fun h0u1 =>
  term_shapes n.1 h0u1 fun v h0u2 =>
  mem h0u2 fun h0u3 =>
  seq (fun (K0 : Bool → Heap → Prop) =>
   iteB (!v.2) (
    K0 true h0u3
   ) (
    Lift.load Value.pointer t0u1 h0u3 fun v_1 =>
    term_Terms_leaf v_1 (n.1, n.2.1, n.2.2.1, n.2.2.2.1, n.2.2.2.2.1, n.2.2.2.2.2) h0u3 fun v_2 h0u5 =>
    K0 (!v_2) h0u5
   )
  ) (fun t0u2 h0u4 =>
   iteB t0u2 (
    Q (0, 1) h0u4
   ) (
    slices_ContainsFunc_int_int__term_Terms_Add_c1 n.2.2.1 t0u1 h0u4 fun v_3 h0u6 =>
    iteB v_3 (
     Q (0, 2) h0u6
    ) (
     seq (fun (K0u1 : Bool → Heap → Prop) =>
      iteB (decide (((n.2.2.1.len : Nat) : Int) < v.1.1)) (
       K0u1 true h0u6
      ) (
       K0u1 (decide (((n.2.2.1.len : Nat) : Int) > v.1.2.1)) h0u6
      )
     ) (fun t0u3 h0u7 =>
      iteB t0u3 (
       Q (0, 15) h0u7
      ) (
       Lift.load Value.pointer t0u1 h0u7 fun v_4 =>
       term_Terms_sorted v_4 (n.1, n.2.1, n.2.2.1, n.2.2.2.1, n.2.2.2.2.1, n.2.2.2.2.2) (v.1.1, v.1.2.1, v.1.2.2.1, v.1.2.2.2) h0u7 fun v_5 h0u8 =>
       iteB (v_5 == 0) (
        Q (0, 14) h0u8
       ) (
        Lift.load Value.pointer t0u1 h0u8 fun v_6 =>
        term_Terms_line v_6 (n.1, n.2.1, n.2.2.1, n.2.2.2.1, n.2.2.2.2.1, n.2.2.2.2.2) h0u8 fun v_7 h0u9 =>
        iteB (!v_7) (
         Q (0, 16) h0u9
        ) (
         Lift.load Value.pointer t0u1 h0u9 fun v_8 =>
         nilChk v_8 fun a =>
         Lift.load Sl.toV (a.add 1) h0u9 fun v_9 =>
         iteB (decide (((v_9.len : Nat) : Int) ≥ 1048576)) (
          Q (0, 4) h0u9
         ) (
          slices_Clone_int_int n.2.2.1 h0u9 fun v_10 h0u10 =>
          seq (fun (K0u2 : Bool → Heap → Prop) =>
           iteB (n.1 == 5) (
            K0u2 true h0u10
           ) (
            Let (decide (n.1 ≥ 18) : Bool) fun ground =>
            K0u2 ground h0u10
           )
          ) (fun t0u4 h0u11 =>
           loop (fun (s0 : Bool × Int) h0u12 (K0u3 : (Bool × Int) → Heap → Prop) =>
            iteB (decide (s0.2 < ((v_10.len : Nat) : Int))) (
             seq (fun (K0u4 : Bool → Heap → Prop) =>
              idxS v_10 s0.2 1 fun a_1 =>
              Lift.load (Value.int .i64) a_1 h0u12 fun v_11 =>
              iteB s0.1 (
               Lift.load Value.pointer t0u1 h0u12 fun v_12 =>
               nilChk v_12 fun a_2 =>
               Lift.load Sl.toV (a_2.add 3) h0u12 fun v_13 =>
               idxS v_13 v_11 1 fun a_3 =>
               Lift.load Value.bool a_3 h0u12 fun v_14 =>
               K0u4 v_14 h0u12
              ) (
               K0u4 false h0u12
              )
             ) (fun t0u5 h0u13 =>
              K0u3 (t0u5, IntKind.wrap .i64 (s0.2 + 1)) h0u13
             )
            ) (
             seq (fun (K0u5 : Unit → Heap → Prop) =>
              Lift.load Value.pointer t0u1 h0u12 fun v_15 =>
              Lift.load Value.pointer t0u1 h0u12 fun v_16 =>
              Lift.load Value.pointer t0u1 h0u12 fun v_17 =>
              Lift.load Value.pointer t0u1 h0u12 fun v_18 =>
              nilChk v_18 fun a_4 =>
              Lift.load Sl.toV (a_4.add 1) h0u12 fun v_19 =>
              Lift.load Value.pointer t0u1 h0u12 fun v_20 =>
              nilChk v_20 fun a_5 =>
              Lift.load Sl.toV (a_5.add 2) h0u12 fun v_21 =>
              Lift.load Value.pointer t0u1 h0u12 fun v_22 =>
              nilChk v_22 fun a_6 =>
              Lift.load Sl.toV (a_6.add 3) h0u12 fun v_23 =>
              (
               new [Value.int .i64 n.1, Value.int .i64 n.2.1, Sl.toV v_10, Value.bool n.2.2.2.1, Sl.toV n.2.2.2.2.1, Sl.toV n.2.2.2.2.2] h0u12 fun a_7 h0u15 =>
               (cell? h0u15 t0u1 = some (Value.pointer v_15)) ∧
               (cell? h0u15 t0u1 = some (Value.pointer v_16)) ∧
               (cell? h0u15 t0u1 = some (Value.pointer v_17)) ∧
               (cell? h0u15 t0u1 = some (Value.pointer v_18)) ∧
               (cell? h0u15 (a_4.add 1) = some (Sl.toV v_19)) ∧
               (cell? h0u15 t0u1 = some (Value.pointer v_20)) ∧
               (cell? h0u15 (a_5.add 2) = some (Sl.toV v_21)) ∧
               (cell? h0u15 t0u1 = some (Value.pointer v_22)) ∧
               (cell? h0u15 (a_6.add 3) = some (Sl.toV v_23)) ∧
               (
                appendS 6 96 v_19 (⟨some a_7, 1, 1⟩ : Sl) h0u15 fun v_25 h0u16 =>
                (cell? h0u16 t0u1 = some (Value.pointer v_15)) ∧
                (cell? h0u16 t0u1 = some (Value.pointer v_16)) ∧
                (cell? h0u16 t0u1 = some (Value.pointer v_17)) ∧
                (cell? h0u16 t0u1 = some (Value.pointer v_20)) ∧
                (cell? h0u16 (a_5.add 2) = some (Sl.toV v_21)) ∧
                (cell? h0u16 t0u1 = some (Value.pointer v_22)) ∧
                (cell? h0u16 (a_6.add 3) = some (Sl.toV v_23)) ∧
                (
                 new [Value.int .i64 v_5] h0u16 fun a_8 h0u17 =>
                 (cell? h0u17 t0u1 = some (Value.pointer v_15)) ∧
                 (cell? h0u17 t0u1 = some (Value.pointer v_16)) ∧
                 (cell? h0u17 t0u1 = some (Value.pointer v_17)) ∧
                 (cell? h0u17 t0u1 = some (Value.pointer v_20)) ∧
                 (cell? h0u17 (a_5.add 2) = some (Sl.toV v_21)) ∧
                 (cell? h0u17 t0u1 = some (Value.pointer v_22)) ∧
                 (cell? h0u17 (a_6.add 3) = some (Sl.toV v_23)) ∧
                 (
                  appendS 1 8 v_21 (⟨some a_8, 1, 1⟩ : Sl) h0u17 fun v_27 h0u18 =>
                  (cell? h0u18 t0u1 = some (Value.pointer v_15)) ∧
                  (cell? h0u18 t0u1 = some (Value.pointer v_16)) ∧
                  (cell? h0u18 t0u1 = some (Value.pointer v_17)) ∧
                  (cell? h0u18 t0u1 = some (Value.pointer v_22)) ∧
                  (cell? h0u18 (a_6.add 3) = some (Sl.toV v_23)) ∧
                  new [Value.bool s0.1] h0u18 fun a_9 h0u19 =>
                  (cell? h0u19 t0u1 = some (Value.pointer v_15)) ∧
                  (cell? h0u19 t0u1 = some (Value.pointer v_16)) ∧
                  (cell? h0u19 t0u1 = some (Value.pointer v_17)) ∧
                  (cell? h0u19 t0u1 = some (Value.pointer v_22)) ∧
                  (cell? h0u19 (a_6.add 3) = some (Sl.toV v_23)) ∧
                  appendS 1 1 v_23 (⟨some a_9, 1, 1⟩ : Sl) h0u19 fun v_29 h0u20 =>
                  (cell? h0u20 t0u1 = some (Value.pointer v_15)) ∧
                  (cell? h0u20 t0u1 = some (Value.pointer v_16)) ∧
                  (cell? h0u20 t0u1 = some (Value.pointer v_17)) ∧
                  nilChk v_15 fun a_10 =>
                  Lift.store (a_10.add 1) (Sl.toV v_25) h0u20 fun h0u21 =>
                  (cell? h0u21 t0u1 = some (Value.pointer v_16)) ∧
                  (cell? h0u21 t0u1 = some (Value.pointer v_17)) ∧
                  nilChk v_16 fun a_11 =>
                  Lift.store (a_11.add 2) (Sl.toV v_27) h0u21 fun h0u22 =>
                  (cell? h0u22 t0u1 = some (Value.pointer v_17)) ∧
                  nilChk v_17 fun a_12 =>
                  Lift.store (a_12.add 3) (Sl.toV v_29) h0u22 fun h0u23 =>
                  K0u5 () h0u23
                 ) ∧ (
                  new [Value.bool s0.1] h0u17 fun a_13 h0u24 =>
                  (cell? h0u24 t0u1 = some (Value.pointer v_15)) ∧
                  (cell? h0u24 t0u1 = some (Value.pointer v_16)) ∧
                  (cell? h0u24 t0u1 = some (Value.pointer v_17)) ∧
                  (cell? h0u24 t0u1 = some (Value.pointer v_20)) ∧
                  (cell? h0u24 (a_5.add 2) = some (Sl.toV v_21)) ∧
                  (cell? h0u24 t0u1 = some (Value.pointer v_22)) ∧
                  (cell? h0u24 (a_6.add 3) = some (Sl.toV v_23)) ∧
                  appendS 1 8 v_21 (⟨some a_8, 1, 1⟩ : Sl) h0u24 fun v_31 h0u25 =>
                  (cell? h0u25 t0u1 = some (Value.pointer v_15)) ∧
                  (cell? h0u25 t0u1 = some (Value.pointer v_16)) ∧
                  (cell? h0u25 t0u1 = some (Value.pointer v_17)) ∧
                  (cell? h0u25 t0u1 = some (Value.pointer v_22)) ∧
                  (cell? h0u25 (a_6.add 3) = some (Sl.toV v_23)) ∧
                  appendS 1 1 v_23 (⟨some a_13, 1, 1⟩ : Sl) h0u25 fun v_32 h0u26 =>
                  (cell? h0u26 t0u1 = some (Value.pointer v_15)) ∧
                  (cell? h0u26 t0u1 = some (Value.pointer v_16)) ∧
                  (cell? h0u26 t0u1 = some (Value.pointer v_17)) ∧
                  nilChk v_15 fun a_14 =>
                  Lift.store (a_14.add 1) (Sl.toV v_25) h0u26 fun h0u27 =>
                  (cell? h0u27 t0u1 = some (Value.pointer v_16)) ∧
                  (cell? h0u27 t0u1 = some (Value.pointer v_17)) ∧
                  nilChk v_16 fun a_15 =>
                  Lift.store (a_15.add 2) (Sl.toV v_31) h0u27 fun h0u28 =>
                  (cell? h0u28 t0u1 = some (Value.pointer v_17)) ∧
                  nilChk v_17 fun a_16 =>
                  Lift.store (a_16.add 3) (Sl.toV v_32) h0u28 fun h0u29 =>
                  K0u5 () h0u29
                 )
                ) ∧ (
                 new [Value.bool s0.1] h0u16 fun a_17 h0u30 =>
                 (cell? h0u30 t0u1 = some (Value.pointer v_15)) ∧
                 (cell? h0u30 t0u1 = some (Value.pointer v_16)) ∧
                 (cell? h0u30 t0u1 = some (Value.pointer v_17)) ∧
                 (cell? h0u30 t0u1 = some (Value.pointer v_20)) ∧
                 (cell? h0u30 (a_5.add 2) = some (Sl.toV v_21)) ∧
                 (cell? h0u30 t0u1 = some (Value.pointer v_22)) ∧
                 (cell? h0u30 (a_6.add 3) = some (Sl.toV v_23)) ∧
                 new [Value.int .i64 v_5] h0u30 fun a_18 h0u31 =>
                 (cell? h0u31 t0u1 = some (Value.pointer v_15)) ∧
                 (cell? h0u31 t0u1 = some (Value.pointer v_16)) ∧
                 (cell? h0u31 t0u1 = some (Value.pointer v_17)) ∧
                 (cell? h0u31 t0u1 = some (Value.pointer v_20)) ∧
                 (cell? h0u31 (a_5.add 2) = some (Sl.toV v_21)) ∧
                 (cell? h0u31 t0u1 = some (Value.pointer v_22)) ∧
                 (cell? h0u31 (a_6.add 3) = some (Sl.toV v_23)) ∧
                 appendS 1 8 v_21 (⟨some a_18, 1, 1⟩ : Sl) h0u31 fun v_35 h0u32 =>
                 (cell? h0u32 t0u1 = some (Value.pointer v_15)) ∧
                 (cell? h0u32 t0u1 = some (Value.pointer v_16)) ∧
                 (cell? h0u32 t0u1 = some (Value.pointer v_17)) ∧
                 (cell? h0u32 t0u1 = some (Value.pointer v_22)) ∧
                 (cell? h0u32 (a_6.add 3) = some (Sl.toV v_23)) ∧
                 appendS 1 1 v_23 (⟨some a_17, 1, 1⟩ : Sl) h0u32 fun v_36 h0u33 =>
                 (cell? h0u33 t0u1 = some (Value.pointer v_15)) ∧
                 (cell? h0u33 t0u1 = some (Value.pointer v_16)) ∧
                 (cell? h0u33 t0u1 = some (Value.pointer v_17)) ∧
                 nilChk v_15 fun a_19 =>
                 Lift.store (a_19.add 1) (Sl.toV v_25) h0u33 fun h0u34 =>
                 (cell? h0u34 t0u1 = some (Value.pointer v_16)) ∧
                 (cell? h0u34 t0u1 = some (Value.pointer v_17)) ∧
                 nilChk v_16 fun a_20 =>
                 Lift.store (a_20.add 2) (Sl.toV v_35) h0u34 fun h0u35 =>
                 (cell? h0u35 t0u1 = some (Value.pointer v_17)) ∧
                 nilChk v_17 fun a_21 =>
                 Lift.store (a_21.add 3) (Sl.toV v_36) h0u35 fun h0u36 =>
                 K0u5 () h0u36
                )
               ) ∧ (
                new [Value.int .i64 v_5] h0u15 fun a_22 h0u37 =>
                (cell? h0u37 t0u1 = some (Value.pointer v_15)) ∧
                (cell? h0u37 t0u1 = some (Value.pointer v_16)) ∧
                (cell? h0u37 t0u1 = some (Value.pointer v_17)) ∧
                (cell? h0u37 t0u1 = some (Value.pointer v_18)) ∧
                (cell? h0u37 (a_4.add 1) = some (Sl.toV v_19)) ∧
                (cell? h0u37 t0u1 = some (Value.pointer v_20)) ∧
                (cell? h0u37 (a_5.add 2) = some (Sl.toV v_21)) ∧
                (cell? h0u37 t0u1 = some (Value.pointer v_22)) ∧
                (cell? h0u37 (a_6.add 3) = some (Sl.toV v_23)) ∧
                (
                 appendS 6 96 v_19 (⟨some a_7, 1, 1⟩ : Sl) h0u37 fun v_38 h0u38 =>
                 (cell? h0u38 t0u1 = some (Value.pointer v_15)) ∧
                 (cell? h0u38 t0u1 = some (Value.pointer v_16)) ∧
                 (cell? h0u38 t0u1 = some (Value.pointer v_17)) ∧
                 (cell? h0u38 t0u1 = some (Value.pointer v_20)) ∧
                 (cell? h0u38 (a_5.add 2) = some (Sl.toV v_21)) ∧
                 (cell? h0u38 t0u1 = some (Value.pointer v_22)) ∧
                 (cell? h0u38 (a_6.add 3) = some (Sl.toV v_23)) ∧
                 (
                  appendS 1 8 v_21 (⟨some a_22, 1, 1⟩ : Sl) h0u38 fun v_39 h0u39 =>
                  (cell? h0u39 t0u1 = some (Value.pointer v_15)) ∧
                  (cell? h0u39 t0u1 = some (Value.pointer v_16)) ∧
                  (cell? h0u39 t0u1 = some (Value.pointer v_17)) ∧
                  (cell? h0u39 t0u1 = some (Value.pointer v_22)) ∧
                  (cell? h0u39 (a_6.add 3) = some (Sl.toV v_23)) ∧
                  new [Value.bool s0.1] h0u39 fun a_23 h0u40 =>
                  (cell? h0u40 t0u1 = some (Value.pointer v_15)) ∧
                  (cell? h0u40 t0u1 = some (Value.pointer v_16)) ∧
                  (cell? h0u40 t0u1 = some (Value.pointer v_17)) ∧
                  (cell? h0u40 t0u1 = some (Value.pointer v_22)) ∧
                  (cell? h0u40 (a_6.add 3) = some (Sl.toV v_23)) ∧
                  appendS 1 1 v_23 (⟨some a_23, 1, 1⟩ : Sl) h0u40 fun v_41 h0u41 =>
                  (cell? h0u41 t0u1 = some (Value.pointer v_15)) ∧
                  (cell? h0u41 t0u1 = some (Value.pointer v_16)) ∧
                  (cell? h0u41 t0u1 = some (Value.pointer v_17)) ∧
                  nilChk v_15 fun a_24 =>
                  Lift.store (a_24.add 1) (Sl.toV v_38) h0u41 fun h0u42 =>
                  (cell? h0u42 t0u1 = some (Value.pointer v_16)) ∧
                  (cell? h0u42 t0u1 = some (Value.pointer v_17)) ∧
                  nilChk v_16 fun a_25 =>
                  Lift.store (a_25.add 2) (Sl.toV v_39) h0u42 fun h0u43 =>
                  (cell? h0u43 t0u1 = some (Value.pointer v_17)) ∧
                  nilChk v_17 fun a_26 =>
                  Lift.store (a_26.add 3) (Sl.toV v_41) h0u43 fun h0u44 =>
                  K0u5 () h0u44
                 ) ∧ (
                  new [Value.bool s0.1] h0u38 fun a_27 h0u45 =>
                  (cell? h0u45 t0u1 = some (Value.pointer v_15)) ∧
                  (cell? h0u45 t0u1 = some (Value.pointer v_16)) ∧
                  (cell? h0u45 t0u1 = some (Value.pointer v_17)) ∧
                  (cell? h0u45 t0u1 = some (Value.pointer v_20)) ∧
                  (cell? h0u45 (a_5.add 2) = some (Sl.toV v_21)) ∧
                  (cell? h0u45 t0u1 = some (Value.pointer v_22)) ∧
                  (cell? h0u45 (a_6.add 3) = some (Sl.toV v_23)) ∧
                  appendS 1 8 v_21 (⟨some a_22, 1, 1⟩ : Sl) h0u45 fun v_43 h0u46 =>
                  (cell? h0u46 t0u1 = some (Value.pointer v_15)) ∧
                  (cell? h0u46 t0u1 = some (Value.pointer v_16)) ∧
                  (cell? h0u46 t0u1 = some (Value.pointer v_17)) ∧
                  (cell? h0u46 t0u1 = some (Value.pointer v_22)) ∧
                  (cell? h0u46 (a_6.add 3) = some (Sl.toV v_23)) ∧
                  appendS 1 1 v_23 (⟨some a_27, 1, 1⟩ : Sl) h0u46 fun v_44 h0u47 =>
                  (cell? h0u47 t0u1 = some (Value.pointer v_15)) ∧
                  (cell? h0u47 t0u1 = some (Value.pointer v_16)) ∧
                  (cell? h0u47 t0u1 = some (Value.pointer v_17)) ∧
                  nilChk v_15 fun a_28 =>
                  Lift.store (a_28.add 1) (Sl.toV v_38) h0u47 fun h0u48 =>
                  (cell? h0u48 t0u1 = some (Value.pointer v_16)) ∧
                  (cell? h0u48 t0u1 = some (Value.pointer v_17)) ∧
                  nilChk v_16 fun a_29 =>
                  Lift.store (a_29.add 2) (Sl.toV v_43) h0u48 fun h0u49 =>
                  (cell? h0u49 t0u1 = some (Value.pointer v_17)) ∧
                  nilChk v_17 fun a_30 =>
                  Lift.store (a_30.add 3) (Sl.toV v_44) h0u49 fun h0u50 =>
                  K0u5 () h0u50
                 )
                ) ∧ (
                 new [Value.bool s0.1] h0u37 fun a_31 h0u51 =>
                 (cell? h0u51 t0u1 = some (Value.pointer v_15)) ∧
                 (cell? h0u51 t0u1 = some (Value.pointer v_16)) ∧
                 (cell? h0u51 t0u1 = some (Value.pointer v_17)) ∧
                 (cell? h0u51 t0u1 = some (Value.pointer v_18)) ∧
                 (cell? h0u51 (a_4.add 1) = some (Sl.toV v_19)) ∧
                 (cell? h0u51 t0u1 = some (Value.pointer v_20)) ∧
                 (cell? h0u51 (a_5.add 2) = some (Sl.toV v_21)) ∧
                 (cell? h0u51 t0u1 = some (Value.pointer v_22)) ∧
                 (cell? h0u51 (a_6.add 3) = some (Sl.toV v_23)) ∧
                 appendS 6 96 v_19 (⟨some a_7, 1, 1⟩ : Sl) h0u51 fun v_46 h0u52 =>
                 (cell? h0u52 t0u1 = some (Value.pointer v_15)) ∧
                 (cell? h0u52 t0u1 = some (Value.pointer v_16)) ∧
                 (cell? h0u52 t0u1 = some (Value.pointer v_17)) ∧
                 (cell? h0u52 t0u1 = some (Value.pointer v_20)) ∧
                 (cell? h0u52 (a_5.add 2) = some (Sl.toV v_21)) ∧
                 (cell? h0u52 t0u1 = some (Value.pointer v_22)) ∧
                 (cell? h0u52 (a_6.add 3) = some (Sl.toV v_23)) ∧
                 appendS 1 8 v_21 (⟨some a_22, 1, 1⟩ : Sl) h0u52 fun v_47 h0u53 =>
                 (cell? h0u53 t0u1 = some (Value.pointer v_15)) ∧
                 (cell? h0u53 t0u1 = some (Value.pointer v_16)) ∧
                 (cell? h0u53 t0u1 = some (Value.pointer v_17)) ∧
                 (cell? h0u53 t0u1 = some (Value.pointer v_22)) ∧
                 (cell? h0u53 (a_6.add 3) = some (Sl.toV v_23)) ∧
                 appendS 1 1 v_23 (⟨some a_31, 1, 1⟩ : Sl) h0u53 fun v_48 h0u54 =>
                 (cell? h0u54 t0u1 = some (Value.pointer v_15)) ∧
                 (cell? h0u54 t0u1 = some (Value.pointer v_16)) ∧
                 (cell? h0u54 t0u1 = some (Value.pointer v_17)) ∧
                 nilChk v_15 fun a_32 =>
                 Lift.store (a_32.add 1) (Sl.toV v_46) h0u54 fun h0u55 =>
                 (cell? h0u55 t0u1 = some (Value.pointer v_16)) ∧
                 (cell? h0u55 t0u1 = some (Value.pointer v_17)) ∧
                 nilChk v_16 fun a_33 =>
                 Lift.store (a_33.add 2) (Sl.toV v_47) h0u55 fun h0u56 =>
                 (cell? h0u56 t0u1 = some (Value.pointer v_17)) ∧
                 nilChk v_17 fun a_34 =>
                 Lift.store (a_34.add 3) (Sl.toV v_48) h0u56 fun h0u57 =>
                 K0u5 () h0u57
                )
               ) ∧ (
                new [Value.bool s0.1] h0u15 fun a_35 h0u58 =>
                (cell? h0u58 t0u1 = some (Value.pointer v_15)) ∧
                (cell? h0u58 t0u1 = some (Value.pointer v_16)) ∧
                (cell? h0u58 t0u1 = some (Value.pointer v_17)) ∧
                (cell? h0u58 t0u1 = some (Value.pointer v_18)) ∧
                (cell? h0u58 (a_4.add 1) = some (Sl.toV v_19)) ∧
                (cell? h0u58 t0u1 = some (Value.pointer v_20)) ∧
                (cell? h0u58 (a_5.add 2) = some (Sl.toV v_21)) ∧
                (cell? h0u58 t0u1 = some (Value.pointer v_22)) ∧
                (cell? h0u58 (a_6.add 3) = some (Sl.toV v_23)) ∧
                (
                 appendS 6 96 v_19 (⟨some a_7, 1, 1⟩ : Sl) h0u58 fun v_50 h0u59 =>
                 (cell? h0u59 t0u1 = some (Value.pointer v_15)) ∧
                 (cell? h0u59 t0u1 = some (Value.pointer v_16)) ∧
                 (cell? h0u59 t0u1 = some (Value.pointer v_17)) ∧
                 (cell? h0u59 t0u1 = some (Value.pointer v_20)) ∧
                 (cell? h0u59 (a_5.add 2) = some (Sl.toV v_21)) ∧
                 (cell? h0u59 t0u1 = some (Value.pointer v_22)) ∧
                 (cell? h0u59 (a_6.add 3) = some (Sl.toV v_23)) ∧
                 new [Value.int .i64 v_5] h0u59 fun a_36 h0u60 =>
                 (cell? h0u60 t0u1 = some (Value.pointer v_15)) ∧
                 (cell? h0u60 t0u1 = some (Value.pointer v_16)) ∧
                 (cell? h0u60 t0u1 = some (Value.pointer v_17)) ∧
                 (cell? h0u60 t0u1 = some (Value.pointer v_20)) ∧
                 (cell? h0u60 (a_5.add 2) = some (Sl.toV v_21)) ∧
                 (cell? h0u60 t0u1 = some (Value.pointer v_22)) ∧
                 (cell? h0u60 (a_6.add 3) = some (Sl.toV v_23)) ∧
                 appendS 1 8 v_21 (⟨some a_36, 1, 1⟩ : Sl) h0u60 fun v_52 h0u61 =>
                 (cell? h0u61 t0u1 = some (Value.pointer v_15)) ∧
                 (cell? h0u61 t0u1 = some (Value.pointer v_16)) ∧
                 (cell? h0u61 t0u1 = some (Value.pointer v_17)) ∧
                 (cell? h0u61 t0u1 = some (Value.pointer v_22)) ∧
                 (cell? h0u61 (a_6.add 3) = some (Sl.toV v_23)) ∧
                 appendS 1 1 v_23 (⟨some a_35, 1, 1⟩ : Sl) h0u61 fun v_53 h0u62 =>
                 (cell? h0u62 t0u1 = some (Value.pointer v_15)) ∧
                 (cell? h0u62 t0u1 = some (Value.pointer v_16)) ∧
                 (cell? h0u62 t0u1 = some (Value.pointer v_17)) ∧
                 nilChk v_15 fun a_37 =>
                 Lift.store (a_37.add 1) (Sl.toV v_50) h0u62 fun h0u63 =>
                 (cell? h0u63 t0u1 = some (Value.pointer v_16)) ∧
                 (cell? h0u63 t0u1 = some (Value.pointer v_17)) ∧
                 nilChk v_16 fun a_38 =>
                 Lift.store (a_38.add 2) (Sl.toV v_52) h0u63 fun h0u64 =>
                 (cell? h0u64 t0u1 = some (Value.pointer v_17)) ∧
                 nilChk v_17 fun a_39 =>
                 Lift.store (a_39.add 3) (Sl.toV v_53) h0u64 fun h0u65 =>
                 K0u5 () h0u65
                ) ∧ (
                 new [Value.int .i64 v_5] h0u58 fun a_40 h0u66 =>
                 (cell? h0u66 t0u1 = some (Value.pointer v_15)) ∧
                 (cell? h0u66 t0u1 = some (Value.pointer v_16)) ∧
                 (cell? h0u66 t0u1 = some (Value.pointer v_17)) ∧
                 (cell? h0u66 t0u1 = some (Value.pointer v_18)) ∧
                 (cell? h0u66 (a_4.add 1) = some (Sl.toV v_19)) ∧
                 (cell? h0u66 t0u1 = some (Value.pointer v_20)) ∧
                 (cell? h0u66 (a_5.add 2) = some (Sl.toV v_21)) ∧
                 (cell? h0u66 t0u1 = some (Value.pointer v_22)) ∧
                 (cell? h0u66 (a_6.add 3) = some (Sl.toV v_23)) ∧
                 appendS 6 96 v_19 (⟨some a_7, 1, 1⟩ : Sl) h0u66 fun v_55 h0u67 =>
                 (cell? h0u67 t0u1 = some (Value.pointer v_15)) ∧
                 (cell? h0u67 t0u1 = some (Value.pointer v_16)) ∧
                 (cell? h0u67 t0u1 = some (Value.pointer v_17)) ∧
                 (cell? h0u67 t0u1 = some (Value.pointer v_20)) ∧
                 (cell? h0u67 (a_5.add 2) = some (Sl.toV v_21)) ∧
                 (cell? h0u67 t0u1 = some (Value.pointer v_22)) ∧
                 (cell? h0u67 (a_6.add 3) = some (Sl.toV v_23)) ∧
                 appendS 1 8 v_21 (⟨some a_40, 1, 1⟩ : Sl) h0u67 fun v_56 h0u68 =>
                 (cell? h0u68 t0u1 = some (Value.pointer v_15)) ∧
                 (cell? h0u68 t0u1 = some (Value.pointer v_16)) ∧
                 (cell? h0u68 t0u1 = some (Value.pointer v_17)) ∧
                 (cell? h0u68 t0u1 = some (Value.pointer v_22)) ∧
                 (cell? h0u68 (a_6.add 3) = some (Sl.toV v_23)) ∧
                 appendS 1 1 v_23 (⟨some a_35, 1, 1⟩ : Sl) h0u68 fun v_57 h0u69 =>
                 (cell? h0u69 t0u1 = some (Value.pointer v_15)) ∧
                 (cell? h0u69 t0u1 = some (Value.pointer v_16)) ∧
                 (cell? h0u69 t0u1 = some (Value.pointer v_17)) ∧
                 nilChk v_15 fun a_41 =>
                 Lift.store (a_41.add 1) (Sl.toV v_55) h0u69 fun h0u70 =>
                 (cell? h0u70 t0u1 = some (Value.pointer v_16)) ∧
                 (cell? h0u70 t0u1 = some (Value.pointer v_17)) ∧
                 nilChk v_16 fun a_42 =>
                 Lift.store (a_42.add 2) (Sl.toV v_56) h0u70 fun h0u71 =>
                 (cell? h0u71 t0u1 = some (Value.pointer v_17)) ∧
                 nilChk v_17 fun a_43 =>
                 Lift.store (a_43.add 3) (Sl.toV v_57) h0u71 fun h0u72 =>
                 K0u5 () h0u72
                )
               )
              ) ∧ (
               new [Value.int .i64 v_5] h0u12 fun a_44 h0u73 =>
               (cell? h0u73 t0u1 = some (Value.pointer v_15)) ∧
               (cell? h0u73 t0u1 = some (Value.pointer v_16)) ∧
               (cell? h0u73 t0u1 = some (Value.pointer v_17)) ∧
               (cell? h0u73 t0u1 = some (Value.pointer v_18)) ∧
               (cell? h0u73 (a_4.add 1) = some (Sl.toV v_19)) ∧
               (cell? h0u73 t0u1 = some (Value.pointer v_20)) ∧
               (cell? h0u73 (a_5.add 2) = some (Sl.toV v_21)) ∧
               (cell? h0u73 t0u1 = some (Value.pointer v_22)) ∧
               (cell? h0u73 (a_6.add 3) = some (Sl.toV v_23)) ∧
               (
                new [Value.int .i64 n.1, Value.int .i64 n.2.1, Sl.toV v_10, Value.bool n.2.2.2.1, Sl.toV n.2.2.2.2.1, Sl.toV n.2.2.2.2.2] h0u73 fun a_45 h0u74 =>
                (cell? h0u74 t0u1 = some (Value.pointer v_15)) ∧
                (cell? h0u74 t0u1 = some (Value.pointer v_16)) ∧
                (cell? h0u74 t0u1 = some (Value.pointer v_17)) ∧
                (cell? h0u74 t0u1 = some (Value.pointer v_18)) ∧
                (cell? h0u74 (a_4.add 1) = some (Sl.toV v_19)) ∧
                (cell? h0u74 t0u1 = some (Value.pointer v_20)) ∧
                (cell? h0u74 (a_5.add 2) = some (Sl.toV v_21)) ∧
                (cell? h0u74 t0u1 = some (Value.pointer v_22)) ∧
                (cell? h0u74 (a_6.add 3) = some (Sl.toV v_23)) ∧
                (
                 appendS 6 96 v_19 (⟨some a_45, 1, 1⟩ : Sl) h0u74 fun v_60 h0u75 =>
                 (cell? h0u75 t0u1 = some (Value.pointer v_15)) ∧
                 (cell? h0u75 t0u1 = some (Value.pointer v_16)) ∧
                 (cell? h0u75 t0u1 = some (Value.pointer v_17)) ∧
                 (cell? h0u75 t0u1 = some (Value.pointer v_20)) ∧
                 (cell? h0u75 (a_5.add 2) = some (Sl.toV v_21)) ∧
                 (cell? h0u75 t0u1 = some (Value.pointer v_22)) ∧
                 (cell? h0u75 (a_6.add 3) = some (Sl.toV v_23)) ∧
                 (
                  appendS 1 8 v_21 (⟨some a_44, 1, 1⟩ : Sl) h0u75 fun v_61 h0u76 =>
                  (cell? h0u76 t0u1 = some (Value.pointer v_15)) ∧
                  (cell? h0u76 t0u1 = some (Value.pointer v_16)) ∧
                  (cell? h0u76 t0u1 = some (Value.pointer v_17)) ∧
                  (cell? h0u76 t0u1 = some (Value.pointer v_22)) ∧
                  (cell? h0u76 (a_6.add 3) = some (Sl.toV v_23)) ∧
                  new [Value.bool s0.1] h0u76 fun a_46 h0u77 =>
                  (cell? h0u77 t0u1 = some (Value.pointer v_15)) ∧
                  (cell? h0u77 t0u1 = some (Value.pointer v_16)) ∧
                  (cell? h0u77 t0u1 = some (Value.pointer v_17)) ∧
                  (cell? h0u77 t0u1 = some (Value.pointer v_22)) ∧
                  (cell? h0u77 (a_6.add 3) = some (Sl.toV v_23)) ∧
                  appendS 1 1 v_23 (⟨some a_46, 1, 1⟩ : Sl) h0u77 fun v_63 h0u78 =>
                  (cell? h0u78 t0u1 = some (Value.pointer v_15)) ∧
                  (cell? h0u78 t0u1 = some (Value.pointer v_16)) ∧
                  (cell? h0u78 t0u1 = some (Value.pointer v_17)) ∧
                  nilChk v_15 fun a_47 =>
                  Lift.store (a_47.add 1) (Sl.toV v_60) h0u78 fun h0u79 =>
                  (cell? h0u79 t0u1 = some (Value.pointer v_16)) ∧
                  (cell? h0u79 t0u1 = some (Value.pointer v_17)) ∧
                  nilChk v_16 fun a_48 =>
                  Lift.store (a_48.add 2) (Sl.toV v_61) h0u79 fun h0u80 =>
                  (cell? h0u80 t0u1 = some (Value.pointer v_17)) ∧
                  nilChk v_17 fun a_49 =>
                  Lift.store (a_49.add 3) (Sl.toV v_63) h0u80 fun h0u81 =>
                  K0u5 () h0u81
                 ) ∧ (
                  new [Value.bool s0.1] h0u75 fun a_50 h0u82 =>
                  (cell? h0u82 t0u1 = some (Value.pointer v_15)) ∧
                  (cell? h0u82 t0u1 = some (Value.pointer v_16)) ∧
                  (cell? h0u82 t0u1 = some (Value.pointer v_17)) ∧
                  (cell? h0u82 t0u1 = some (Value.pointer v_20)) ∧
                  (cell? h0u82 (a_5.add 2) = some (Sl.toV v_21)) ∧
                  (cell? h0u82 t0u1 = some (Value.pointer v_22)) ∧
                  (cell? h0u82 (a_6.add 3) = some (Sl.toV v_23)) ∧
                  appendS 1 8 v_21 (⟨some a_44, 1, 1⟩ : Sl) h0u82 fun v_65 h0u83 =>
                  (cell? h0u83 t0u1 = some (Value.pointer v_15)) ∧
                  (cell? h0u83 t0u1 = some (Value.pointer v_16)) ∧
                  (cell? h0u83 t0u1 = some (Value.pointer v_17)) ∧
                  (cell? h0u83 t0u1 = some (Value.pointer v_22)) ∧
                  (cell? h0u83 (a_6.add 3) = some (Sl.toV v_23)) ∧
                  appendS 1 1 v_23 (⟨some a_50, 1, 1⟩ : Sl) h0u83 fun v_66 h0u84 =>
                  (cell? h0u84 t0u1 = some (Value.pointer v_15)) ∧
                  (cell? h0u84 t0u1 = some (Value.pointer v_16)) ∧
                  (cell? h0u84 t0u1 = some (Value.pointer v_17)) ∧
                  nilChk v_15 fun a_51 =>
                  Lift.store (a_51.add 1) (Sl.toV v_60) h0u84 fun h0u85 =>
                  (cell? h0u85 t0u1 = some (Value.pointer v_16)) ∧
                  (cell? h0u85 t0u1 = some (Value.pointer v_17)) ∧
                  nilChk v_16 fun a_52 =>
                  Lift.store (a_52.add 2) (Sl.toV v_65) h0u85 fun h0u86 =>
                  (cell? h0u86 t0u1 = some (Value.pointer v_17)) ∧
                  nilChk v_17 fun a_53 =>
                  Lift.store (a_53.add 3) (Sl.toV v_66) h0u86 fun h0u87 =>
                  K0u5 () h0u87
                 )
                ) ∧ (
                 new [Value.bool s0.1] h0u74 fun a_54 h0u88 =>
                 (cell? h0u88 t0u1 = some (Value.pointer v_15)) ∧
                 (cell? h0u88 t0u1 = some (Value.pointer v_16)) ∧
                 (cell? h0u88 t0u1 = some (Value.pointer v_17)) ∧
                 (cell? h0u88 t0u1 = some (Value.pointer v_18)) ∧
                 (cell? h0u88 (a_4.add 1) = some (Sl.toV v_19)) ∧
                 (cell? h0u88 t0u1 = some (Value.pointer v_20)) ∧
                 (cell? h0u88 (a_5.add 2) = some (Sl.toV v_21)) ∧
                 (cell? h0u88 t0u1 = some (Value.pointer v_22)) ∧
                 (cell? h0u88 (a_6.add 3) = some (Sl.toV v_23)) ∧
                 appendS 6 96 v_19 (⟨some a_45, 1, 1⟩ : Sl) h0u88 fun v_68 h0u89 =>
                 (cell? h0u89 t0u1 = some (Value.pointer v_15)) ∧
                 (cell? h0u89 t0u1 = some (Value.pointer v_16)) ∧
                 (cell? h0u89 t0u1 = some (Value.pointer v_17)) ∧
                 (cell? h0u89 t0u1 = some (Value.pointer v_20)) ∧
                 (cell? h0u89 (a_5.add 2) = some (Sl.toV v_21)) ∧
                 (cell? h0u89 t0u1 = some (Value.pointer v_22)) ∧
                 (cell? h0u89 (a_6.add 3) = some (Sl.toV v_23)) ∧
                 appendS 1 8 v_21 (⟨some a_44, 1, 1⟩ : Sl) h0u89 fun v_69 h0u90 =>
                 (cell? h0u90 t0u1 = some (Value.pointer v_15)) ∧
                 (cell? h0u90 t0u1 = some (Value.pointer v_16)) ∧
                 (cell? h0u90 t0u1 = some (Value.pointer v_17)) ∧
                 (cell? h0u90 t0u1 = some (Value.pointer v_22)) ∧
                 (cell? h0u90 (a_6.add 3) = some (Sl.toV v_23)) ∧
                 appendS 1 1 v_23 (⟨some a_54, 1, 1⟩ : Sl) h0u90 fun v_70 h0u91 =>
                 (cell? h0u91 t0u1 = some (Value.pointer v_15)) ∧
                 (cell? h0u91 t0u1 = some (Value.pointer v_16)) ∧
                 (cell? h0u91 t0u1 = some (Value.pointer v_17)) ∧
                 nilChk v_15 fun a_55 =>
                 Lift.store (a_55.add 1) (Sl.toV v_68) h0u91 fun h0u92 =>
                 (cell? h0u92 t0u1 = some (Value.pointer v_16)) ∧
                 (cell? h0u92 t0u1 = some (Value.pointer v_17)) ∧
                 nilChk v_16 fun a_56 =>
                 Lift.store (a_56.add 2) (Sl.toV v_69) h0u92 fun h0u93 =>
                 (cell? h0u93 t0u1 = some (Value.pointer v_17)) ∧
                 nilChk v_17 fun a_57 =>
                 Lift.store (a_57.add 3) (Sl.toV v_70) h0u93 fun h0u94 =>
                 K0u5 () h0u94
                )
               ) ∧ (
                new [Value.bool s0.1] h0u73 fun a_58 h0u95 =>
                (cell? h0u95 t0u1 = some (Value.pointer v_15)) ∧
                (cell? h0u95 t0u1 = some (Value.pointer v_16)) ∧
                (cell? h0u95 t0u1 = some (Value.pointer v_17)) ∧
                (cell? h0u95 t0u1 = some (Value.pointer v_18)) ∧
                (cell? h0u95 (a_4.add 1) = some (Sl.toV v_19)) ∧
                (cell? h0u95 t0u1 = some (Value.pointer v_20)) ∧
                (cell? h0u95 (a_5.add 2) = some (Sl.toV v_21)) ∧
                (cell? h0u95 t0u1 = some (Value.pointer v_22)) ∧
                (cell? h0u95 (a_6.add 3) = some (Sl.toV v_23)) ∧
                new [Value.int .i64 n.1, Value.int .i64 n.2.1, Sl.toV v_10, Value.bool n.2.2.2.1, Sl.toV n.2.2.2.2.1, Sl.toV n.2.2.2.2.2] h0u95 fun a_59 h0u96 =>
                (cell? h0u96 t0u1 = some (Value.pointer v_15)) ∧
                (cell? h0u96 t0u1 = some (Value.pointer v_16)) ∧
                (cell? h0u96 t0u1 = some (Value.pointer v_17)) ∧
                (cell? h0u96 t0u1 = some (Value.pointer v_18)) ∧
                (cell? h0u96 (a_4.add 1) = some (Sl.toV v_19)) ∧
                (cell? h0u96 t0u1 = some (Value.pointer v_20)) ∧
                (cell? h0u96 (a_5.add 2) = some (Sl.toV v_21)) ∧
                (cell? h0u96 t0u1 = some (Value.pointer v_22)) ∧
                (cell? h0u96 (a_6.add 3) = some (Sl.toV v_23)) ∧
                appendS 6 96 v_19 (⟨some a_59, 1, 1⟩ : Sl) h0u96 fun v_73 h0u97 =>
                (cell? h0u97 t0u1 = some (Value.pointer v_15)) ∧
                (cell? h0u97 t0u1 = some (Value.pointer v_16)) ∧
                (cell? h0u97 t0u1 = some (Value.pointer v_17)) ∧
                (cell? h0u97 t0u1 = some (Value.pointer v_20)) ∧
                (cell? h0u97 (a_5.add 2) = some (Sl.toV v_21)) ∧
                (cell? h0u97 t0u1 = some (Value.pointer v_22)) ∧
                (cell? h0u97 (a_6.add 3) = some (Sl.toV v_23)) ∧
                appendS 1 8 v_21 (⟨some a_44, 1, 1⟩ : Sl) h0u97 fun v_74 h0u98 =>
                (cell? h0u98 t0u1 = some (Value.pointer v_15)) ∧
                (cell? h0u98 t0u1 = some (Value.pointer v_16)) ∧
                (cell? h0u98 t0u1 = some (Value.pointer v_17)) ∧
                (cell? h0u98 t0u1 = some (Value.pointer v_22)) ∧
                (cell? h0u98 (a_6.add 3) = some (Sl.toV v_23)) ∧
                appendS 1 1 v_23 (⟨some a_58, 1, 1⟩ : Sl) h0u98 fun v_75 h0u99 =>
                (cell? h0u99 t0u1 = some (Value.pointer v_15)) ∧
                (cell? h0u99 t0u1 = some (Value.pointer v_16)) ∧
                (cell? h0u99 t0u1 = some (Value.pointer v_17)) ∧
                nilChk v_15 fun a_60 =>
                Lift.store (a_60.add 1) (Sl.toV v_73) h0u99 fun h0u100 =>
                (cell? h0u100 t0u1 = some (Value.pointer v_16)) ∧
                (cell? h0u100 t0u1 = some (Value.pointer v_17)) ∧
                nilChk v_16 fun a_61 =>
                Lift.store (a_61.add 2) (Sl.toV v_74) h0u100 fun h0u101 =>
                (cell? h0u101 t0u1 = some (Value.pointer v_17)) ∧
                nilChk v_17 fun a_62 =>
                Lift.store (a_62.add 3) (Sl.toV v_75) h0u101 fun h0u102 =>
                K0u5 () h0u102
               )
              ) ∧ (
               new [Value.bool s0.1] h0u12 fun a_63 h0u103 =>
               (cell? h0u103 t0u1 = some (Value.pointer v_15)) ∧
               (cell? h0u103 t0u1 = some (Value.pointer v_16)) ∧
               (cell? h0u103 t0u1 = some (Value.pointer v_17)) ∧
               (cell? h0u103 t0u1 = some (Value.pointer v_18)) ∧
               (cell? h0u103 (a_4.add 1) = some (Sl.toV v_19)) ∧
               (cell? h0u103 t0u1 = some (Value.pointer v_20)) ∧
               (cell? h0u103 (a_5.add 2) = some (Sl.toV v_21)) ∧
               (cell? h0u103 t0u1 = some (Value.pointer v_22)) ∧
               (cell? h0u103 (a_6.add 3) = some (Sl.toV v_23)) ∧
               (
                new [Value.int .i64 n.1, Value.int .i64 n.2.1, Sl.toV v_10, Value.bool n.2.2.2.1, Sl.toV n.2.2.2.2.1, Sl.toV n.2.2.2.2.2] h0u103 fun a_64 h0u104 =>
                (cell? h0u104 t0u1 = some (Value.pointer v_15)) ∧
                (cell? h0u104 t0u1 = some (Value.pointer v_16)) ∧
                (cell? h0u104 t0u1 = some (Value.pointer v_17)) ∧
                (cell? h0u104 t0u1 = some (Value.pointer v_18)) ∧
                (cell? h0u104 (a_4.add 1) = some (Sl.toV v_19)) ∧
                (cell? h0u104 t0u1 = some (Value.pointer v_20)) ∧
                (cell? h0u104 (a_5.add 2) = some (Sl.toV v_21)) ∧
                (cell? h0u104 t0u1 = some (Value.pointer v_22)) ∧
                (cell? h0u104 (a_6.add 3) = some (Sl.toV v_23)) ∧
                (
                 appendS 6 96 v_19 (⟨some a_64, 1, 1⟩ : Sl) h0u104 fun v_78 h0u105 =>
                 (cell? h0u105 t0u1 = some (Value.pointer v_15)) ∧
                 (cell? h0u105 t0u1 = some (Value.pointer v_16)) ∧
                 (cell? h0u105 t0u1 = some (Value.pointer v_17)) ∧
                 (cell? h0u105 t0u1 = some (Value.pointer v_20)) ∧
                 (cell? h0u105 (a_5.add 2) = some (Sl.toV v_21)) ∧
                 (cell? h0u105 t0u1 = some (Value.pointer v_22)) ∧
                 (cell? h0u105 (a_6.add 3) = some (Sl.toV v_23)) ∧
                 new [Value.int .i64 v_5] h0u105 fun a_65 h0u106 =>
                 (cell? h0u106 t0u1 = some (Value.pointer v_15)) ∧
                 (cell? h0u106 t0u1 = some (Value.pointer v_16)) ∧
                 (cell? h0u106 t0u1 = some (Value.pointer v_17)) ∧
                 (cell? h0u106 t0u1 = some (Value.pointer v_20)) ∧
                 (cell? h0u106 (a_5.add 2) = some (Sl.toV v_21)) ∧
                 (cell? h0u106 t0u1 = some (Value.pointer v_22)) ∧
                 (cell? h0u106 (a_6.add 3) = some (Sl.toV v_23)) ∧
                 appendS 1 8 v_21 (⟨some a_65, 1, 1⟩ : Sl) h0u106 fun v_80 h0u107 =>
                 (cell? h0u107 t0u1 = some (Value.pointer v_15)) ∧
                 (cell? h0u107 t0u1 = some (Value.pointer v_16)) ∧
                 (cell? h0u107 t0u1 = some (Value.pointer v_17)) ∧
                 (cell? h0u107 t0u1 = some (Value.pointer v_22)) ∧
                 (cell? h0u107 (a_6.add 3) = some (Sl.toV v_23)) ∧
                 appendS 1 1 v_23 (⟨some a_63, 1, 1⟩ : Sl) h0u107 fun v_81 h0u108 =>
                 (cell? h0u108 t0u1 = some (Value.pointer v_15)) ∧
                 (cell? h0u108 t0u1 = some (Value.pointer v_16)) ∧
                 (cell? h0u108 t0u1 = some (Value.pointer v_17)) ∧
                 nilChk v_15 fun a_66 =>
                 Lift.store (a_66.add 1) (Sl.toV v_78) h0u108 fun h0u109 =>
                 (cell? h0u109 t0u1 = some (Value.pointer v_16)) ∧
                 (cell? h0u109 t0u1 = some (Value.pointer v_17)) ∧
                 nilChk v_16 fun a_67 =>
                 Lift.store (a_67.add 2) (Sl.toV v_80) h0u109 fun h0u110 =>
                 (cell? h0u110 t0u1 = some (Value.pointer v_17)) ∧
                 nilChk v_17 fun a_68 =>
                 Lift.store (a_68.add 3) (Sl.toV v_81) h0u110 fun h0u111 =>
                 K0u5 () h0u111
                ) ∧ (
                 new [Value.int .i64 v_5] h0u104 fun a_69 h0u112 =>
                 (cell? h0u112 t0u1 = some (Value.pointer v_15)) ∧
                 (cell? h0u112 t0u1 = some (Value.pointer v_16)) ∧
                 (cell? h0u112 t0u1 = some (Value.pointer v_17)) ∧
                 (cell? h0u112 t0u1 = some (Value.pointer v_18)) ∧
                 (cell? h0u112 (a_4.add 1) = some (Sl.toV v_19)) ∧
                 (cell? h0u112 t0u1 = some (Value.pointer v_20)) ∧
                 (cell? h0u112 (a_5.add 2) = some (Sl.toV v_21)) ∧
                 (cell? h0u112 t0u1 = some (Value.pointer v_22)) ∧
                 (cell? h0u112 (a_6.add 3) = some (Sl.toV v_23)) ∧
                 appendS 6 96 v_19 (⟨some a_64, 1, 1⟩ : Sl) h0u112 fun v_83 h0u113 =>
                 (cell? h0u113 t0u1 = some (Value.pointer v_15)) ∧
                 (cell? h0u113 t0u1 = some (Value.pointer v_16)) ∧
                 (cell? h0u113 t0u1 = some (Value.pointer v_17)) ∧
                 (cell? h0u113 t0u1 = some (Value.pointer v_20)) ∧
                 (cell? h0u113 (a_5.add 2) = some (Sl.toV v_21)) ∧
                 (cell? h0u113 t0u1 = some (Value.pointer v_22)) ∧
                 (cell? h0u113 (a_6.add 3) = some (Sl.toV v_23)) ∧
                 appendS 1 8 v_21 (⟨some a_69, 1, 1⟩ : Sl) h0u113 fun v_84 h0u114 =>
                 (cell? h0u114 t0u1 = some (Value.pointer v_15)) ∧
                 (cell? h0u114 t0u1 = some (Value.pointer v_16)) ∧
                 (cell? h0u114 t0u1 = some (Value.pointer v_17)) ∧
                 (cell? h0u114 t0u1 = some (Value.pointer v_22)) ∧
                 (cell? h0u114 (a_6.add 3) = some (Sl.toV v_23)) ∧
                 appendS 1 1 v_23 (⟨some a_63, 1, 1⟩ : Sl) h0u114 fun v_85 h0u115 =>
                 (cell? h0u115 t0u1 = some (Value.pointer v_15)) ∧
                 (cell? h0u115 t0u1 = some (Value.pointer v_16)) ∧
                 (cell? h0u115 t0u1 = some (Value.pointer v_17)) ∧
                 nilChk v_15 fun a_70 =>
                 Lift.store (a_70.add 1) (Sl.toV v_83) h0u115 fun h0u116 =>
                 (cell? h0u116 t0u1 = some (Value.pointer v_16)) ∧
                 (cell? h0u116 t0u1 = some (Value.pointer v_17)) ∧
                 nilChk v_16 fun a_71 =>
                 Lift.store (a_71.add 2) (Sl.toV v_84) h0u116 fun h0u117 =>
                 (cell? h0u117 t0u1 = some (Value.pointer v_17)) ∧
                 nilChk v_17 fun a_72 =>
                 Lift.store (a_72.add 3) (Sl.toV v_85) h0u117 fun h0u118 =>
                 K0u5 () h0u118
                )
               ) ∧ (
                new [Value.int .i64 v_5] h0u103 fun a_73 h0u119 =>
                (cell? h0u119 t0u1 = some (Value.pointer v_15)) ∧
                (cell? h0u119 t0u1 = some (Value.pointer v_16)) ∧
                (cell? h0u119 t0u1 = some (Value.pointer v_17)) ∧
                (cell? h0u119 t0u1 = some (Value.pointer v_18)) ∧
                (cell? h0u119 (a_4.add 1) = some (Sl.toV v_19)) ∧
                (cell? h0u119 t0u1 = some (Value.pointer v_20)) ∧
                (cell? h0u119 (a_5.add 2) = some (Sl.toV v_21)) ∧
                (cell? h0u119 t0u1 = some (Value.pointer v_22)) ∧
                (cell? h0u119 (a_6.add 3) = some (Sl.toV v_23)) ∧
                new [Value.int .i64 n.1, Value.int .i64 n.2.1, Sl.toV v_10, Value.bool n.2.2.2.1, Sl.toV n.2.2.2.2.1, Sl.toV n.2.2.2.2.2] h0u119 fun a_74 h0u120 =>
                (cell? h0u120 t0u1 = some (Value.pointer v_15)) ∧
                (cell? h0u120 t0u1 = some (Value.pointer v_16)) ∧
                (cell? h0u120 t0u1 = some (Value.pointer v_17)) ∧
                (cell? h0u120 t0u1 = some (Value.pointer v_18)) ∧
                (cell? h0u120 (a_4.add 1) = some (Sl.toV v_19)) ∧
                (cell? h0u120 t0u1 = some (Value.pointer v_20)) ∧
                (cell? h0u120 (a_5.add 2) = some (Sl.toV v_21)) ∧
                (cell? h0u120 t0u1 = some (Value.pointer v_22)) ∧
                (cell? h0u120 (a_6.add 3) = some (Sl.toV v_23)) ∧
                appendS 6 96 v_19 (⟨some a_74, 1, 1⟩ : Sl) h0u120 fun v_88 h0u121 =>
                (cell? h0u121 t0u1 = some (Value.pointer v_15)) ∧
                (cell? h0u121 t0u1 = some (Value.pointer v_16)) ∧
                (cell? h0u121 t0u1 = some (Value.pointer v_17)) ∧
                (cell? h0u121 t0u1 = some (Value.pointer v_20)) ∧
                (cell? h0u121 (a_5.add 2) = some (Sl.toV v_21)) ∧
                (cell? h0u121 t0u1 = some (Value.pointer v_22)) ∧
                (cell? h0u121 (a_6.add 3) = some (Sl.toV v_23)) ∧
                appendS 1 8 v_21 (⟨some a_73, 1, 1⟩ : Sl) h0u121 fun v_89 h0u122 =>
                (cell? h0u122 t0u1 = some (Value.pointer v_15)) ∧
                (cell? h0u122 t0u1 = some (Value.pointer v_16)) ∧
                (cell? h0u122 t0u1 = some (Value.pointer v_17)) ∧
                (cell? h0u122 t0u1 = some (Value.pointer v_22)) ∧
                (cell? h0u122 (a_6.add 3) = some (Sl.toV v_23)) ∧
                appendS 1 1 v_23 (⟨some a_63, 1, 1⟩ : Sl) h0u122 fun v_90 h0u123 =>
                (cell? h0u123 t0u1 = some (Value.pointer v_15)) ∧
                (cell? h0u123 t0u1 = some (Value.pointer v_16)) ∧
                (cell? h0u123 t0u1 = some (Value.pointer v_17)) ∧
                nilChk v_15 fun a_75 =>
                Lift.store (a_75.add 1) (Sl.toV v_88) h0u123 fun h0u124 =>
                (cell? h0u124 t0u1 = some (Value.pointer v_16)) ∧
                (cell? h0u124 t0u1 = some (Value.pointer v_17)) ∧
                nilChk v_16 fun a_76 =>
                Lift.store (a_76.add 2) (Sl.toV v_89) h0u124 fun h0u125 =>
                (cell? h0u125 t0u1 = some (Value.pointer v_17)) ∧
                nilChk v_17 fun a_77 =>
                Lift.store (a_77.add 3) (Sl.toV v_90) h0u125 fun h0u126 =>
                K0u5 () h0u126
               )
              )
             ) (fun t0u6 h0u14 =>
              Lift.load Value.pointer t0u1 h0u14 fun v_91 =>
              nilChk v_91 fun a_78 =>
              Lift.load Sl.toV (a_78.add 1) h0u14 fun v_92 =>
              Q (IntKind.wrap .i64 (((v_92.len : Nat) : Int) - 1), 0) h0u14
             )
            )
           ) (t0u4, 0) h0u11
          )
         )
        )
       )
      )
     )
    )
   )
  )
def term_Right (nodes : Sl) (bools : Int) (reals : Int) (h : Heap) (Q : Bool → Heap → Prop) : Prop :=
  term_New bools reals h fun v h0 =>
  loop (fun (s0 : Int) h0u1 (K0 : Int → Heap → Prop) =>
   iteB (decide (s0 < ((nodes.len : Nat) : Int))) (
    idxS nodes s0 6 fun a =>
    loadS C_i64ui64usl_bool_sl_sl 6 a h0u1 fun v_1 =>
    mem h0u1 fun h0u2 =>
    term_Terms_Add v (v_1.1, v_1.2.1, v_1.2.2.1, v_1.2.2.2.1, v_1.2.2.2.2.1, v_1.2.2.2.2.2) h0u2 fun v_2 h0u3 =>
    iteB (v_2.2 != 0) (
     Q false h0u3
    ) (
     K0 (IntKind.wrap .i64 (s0 + 1)) h0u3
    )
   ) (
    Q true h0u1
   )
  ) 0 h0
def eval_All_c1 (x0 : Bool × Sl × Sl) (h : Heap) (Q : Bool → Heap → Prop) : Prop :=
  mem h fun h0 =>
  ratio_Right (x0.1, x0.2.1, x0.2.2) h0 fun v h0u1 =>
  Q (!v) h0u1
def slices_IndexFunc_api_Ratio_api_Ratio__eval_All_c1 (s0 : Sl) (h : Heap) (Q : Int → Heap → Prop) : Prop :=
  loop (fun (s0u1 : Int) h0 (K0 : Int → Heap → Prop) =>
   iteB (decide (s0u1 < ((s0.len : Nat) : Int))) (
    idxS s0 s0u1 3 fun a =>
    loadS C_bool_sl_sl 3 a h0 fun v =>
    eval_All_c1 (v.1, v.2.1, v.2.2) h0 fun v_1 h0u1 =>
    iteB v_1 (
     Q s0u1 h0u1
    ) (
     K0 (IntKind.wrap .i64 (s0u1 + 1)) h0u1
    )
   ) (
    Q (-1) h0
   )
  ) 0 h
def slices_ContainsFunc_api_Ratio_api_Ratio__eval_All_c1 (s0 : Sl) (h : Heap) (Q : Bool → Heap → Prop) : Prop :=
  slices_IndexFunc_api_Ratio_api_Ratio__eval_All_c1 s0 h fun v h0 =>
  Q (decide (v ≥ 0)) h0
def eval_look_kids (l : (Option Addr)) (n : Int × Int × Sl × Bool × Sl × Sl) (h : Heap) (Q : Sl → Heap → Prop) : Prop :=
  mem h fun h0 =>
  loop (fun (s0 : Sl × Int) h0u1 (K0 : (Sl × Int) → Heap → Prop) =>
   iteB (decide (s0.2 < ((n.2.2.1.len : Nat) : Int))) (
    idxS n.2.2.1 s0.2 1 fun a =>
    Lift.load (Value.int .i64) a h0u1 fun v =>
    nilChk l fun a_1 =>
    Lift.load Sl.toV (a_1.add 4) h0u1 fun v_1 =>
    idxS v_1 v 4 fun a_2 =>
    loadS C_bool_bool_sl_sl 4 a_2 h0u1 fun v_2 =>
    new [Value.bool v_2.1, Value.bool v_2.2.1, Sl.toV v_2.2.2.1, Sl.toV v_2.2.2.2] h0u1 fun a_3 h0u2 =>
    appendS 4 64 s0.1 (⟨some a_3, 1, 1⟩ : Sl) h0u2 fun v_4 h0u3 =>
    K0 (v_4, IntKind.wrap .i64 (s0.2 + 1)) h0u3
   ) (
    Q s0.1 h0u1
   )
  ) (Sl.nil, 0) h0
def ratio_Neg (x0 : Bool × Sl × Sl) (h : Heap) (Q : (Bool × Sl × Sl) → Heap → Prop) : Prop :=
  mem h fun h0 =>
  seq (fun (K0 : Bool → Heap → Prop) =>
   iteB (!x0.1) (
    Let (decide (((x0.2.1.len : Nat) : Int) > 0) : Bool) fun neg =>
    K0 neg h0
   ) (
    K0 false h0
   )
  ) (fun t0 h0u1 =>
   slices_Clone_api_Nat_uint32 x0.2.1 h0u1 fun v h0u2 =>
   slices_Clone_api_Nat_uint32 x0.2.2 h0u2 fun v_1 h0u3 =>
   Q (t0, v, v_1) h0u3
  )
def nat_Bench_Mul (b : (Option Addr)) (x0 : Sl) (y : Sl) (h : Heap) (Q : Sl → Heap → Prop) : Prop :=
  nat_trim x0 h fun v h0 =>
  nat_trim y h0 fun v_1 h0u1 =>
  nat_times v v_1 h0u1 fun v_2 h0u2 =>
  nat_Bench_fit b v_2 h0u2 fun v_3 h0u3 =>
  Q v_3 h0u3
def nat_plus (x0 : Sl) (y : Sl) (h : Heap) (Q : Sl → Heap → Prop) : Prop :=
  loop (fun (s0 : Sl × Int × Int) h0 (K0 : (Sl × Int × Int) → Heap → Prop) =>
   iteB (decide (s0.2.2 < (if ((y.len : Nat) : Int) > ((x0.len : Nat) : Int) then ((y.len : Nat) : Int) else ((x0.len : Nat) : Int)))) (
    loop (fun (s0u1 : Int × Int) h0u1 (K0u1 : (Int × Int) → Heap → Prop) =>
     iteB (decide (s0u1.2 < 2)) (
      seq (fun (K0u2 : Int → Heap → Prop) =>
       idxV Sl.toV [Sl.toV x0, Sl.toV y] 2 s0u1.2 1 fun v =>
       iteB (decide (s0.2.2 < ((v.len : Nat) : Int))) (
        idxS v s0.2.2 1 fun a =>
        Lift.load (Value.int .u32) a h0u1 fun v_1 =>
        Let (IntKind.wrap .u64 (s0u1.1 + (IntKind.wrap .u64 v_1)) : Int) fun carry =>
        K0u2 carry h0u1
       ) (
        K0u2 s0u1.1 h0u1
       )
      ) (fun t0 h0u2 =>
       K0u1 (t0, IntKind.wrap .i64 (s0u1.2 + 1)) h0u2
      )
     ) (
      new [Value.int .u32 (IntKind.wrap .u32 s0u1.1)] h0u1 fun a_1 h0u3 =>
      appendS 1 4 s0.1 (⟨some a_1, 1, 1⟩ : Sl) h0u3 fun v_3 h0u4 =>
      Let (Int.fdiv s0u1.1 (2 ^ (min (Int.toNat 32) (IntKind.bits .u64))) : Int) fun carry_1 =>
      K0 (v_3, carry_1, IntKind.wrap .i64 (s0.2.2 + 1)) h0u4
     )
    ) (s0.2.1, 0) h0
   ) (
    new [Value.int .u32 (IntKind.wrap .u32 s0.2.1)] h0 fun a_2 h0u5 =>
    appendS 1 4 s0.1 (⟨some a_2, 1, 1⟩ : Sl) h0u5 fun v_5 h0u6 =>
    Q v_5 h0u6
   )
  ) (Sl.nil, 0, 0) h
def nat_bit (x0 : Sl) (at0 : Int) (h : Heap) (Q : Int → Heap → Prop) : Prop :=
  idxS x0 (IntKind.wrap .i64 (Int.tdiv at0 32)) 1 fun a =>
  Lift.load (Value.int .u32) a h fun v =>
  (0 ≤ (Int.tmod at0 32)) ∧
  Q (IntKind.wrap .u32 (((BitVec.ofInt (IntKind.bits .u32) (Int.fdiv v (2 ^ (min (Int.toNat (Int.tmod at0 32)) (IntKind.bits .u32)))) &&& BitVec.ofInt (IntKind.bits .u32) 1).toNat : Int))) h
def nat_divide (x0 : Sl) (y : Sl) (h : Heap) (Q : (Sl × Sl) → Heap → Prop) : Prop :=
  nat_small x0 h fun v h0 =>
  nat_small y h0 fun v_1 h0u1 =>
  seq (fun (K0 : Bool → Heap → Prop) =>
   iteB v.2 (
    K0 v_1.2 h0u1
   ) (
    K0 false h0u1
   )
  ) (fun t0 h0u2 =>
   iteB t0 (
    (v_1.1 ≠ 0) ∧
    (v_1.1 ≠ 0) ∧
    nat_Of (IntKind.wrap .u64 (Int.tdiv v.1 v_1.1)) h0u2 fun v_2 h0u3 =>
    nat_Of (Int.tmod v.1 v_1.1) h0u3 fun v_3 h0u4 =>
    Q (v_2, v_3) h0u4
   ) (
    nat_trim x0 h0u2 fun v_4 h0u5 =>
    nat_trim y h0u5 fun v_5 h0u6 =>
    Let (((v_4.len : Nat) : Int) : Int) fun t38 =>
    mkS [Value.int .u32 0] 4 t38 t38 h0u6 fun v_6 h0u7 =>
    Let (IntKind.wrap .i64 ((IntKind.wrap .i64 (((v_4.len : Nat) : Int) * 32)) - 1) : Int) fun at0 =>
    loop (fun (s0 : Sl × Int) h0u8 (K0u1 : (Sl × Int) → Heap → Prop) =>
     iteB (decide (s0.2 ≥ 0)) (
      seq (fun (K0u2 : Sl → Heap → Prop) =>
       nat_plus s0.1 s0.1 h0u8 fun v_7 h0u10 =>
       idxS v_7 0 1 fun a =>
       Lift.load (Value.int .u32) a h0u10 fun v_8 =>
       nat_bit v_4 s0.2 h0u10 fun v_9 h0u11 =>
       (cell? h0u11 a = some (Value.int .u32 v_8)) ∧
       idxS v_7 0 1 fun a_1 =>
       Lift.store a_1 (Value.int .u32 (IntKind.wrap .u32 (((BitVec.ofInt (IntKind.bits .u32) v_8 ||| BitVec.ofInt (IntKind.bits .u32) v_9).toNat : Int)))) h0u11 fun h0u12 =>
       nat_trim v_7 h0u12 fun v_10 h0u13 =>
       nat_Cmp v_10 v_5 h0u13 fun v_11 h0u14 =>
       iteB (decide (v_11 ≥ 0)) (
        nat_minus v_10 v_5 h0u14 fun v_12 h0u15 =>
        idxS v_6 (IntKind.wrap .i64 (Int.tdiv s0.2 32)) 1 fun a_2 =>
        Lift.load (Value.int .u32) a_2 h0u15 fun v_13 =>
        (0 ≤ (Int.tmod s0.2 32)) ∧
        idxS v_6 (IntKind.wrap .i64 (Int.tdiv s0.2 32)) 1 fun a_3 =>
        Lift.store a_3 (Value.int .u32 (IntKind.wrap .u32 (((BitVec.ofInt (IntKind.bits .u32) v_13 ||| BitVec.ofInt (IntKind.bits .u32) (IntKind.wrap .u32 (1 * 2 ^ (min (Int.toNat (Int.tmod s0.2 32)) (IntKind.bits .u32))))).toNat : Int)))) h0u15 fun h0u16 =>
        K0u2 v_12 h0u16
       ) (
        K0u2 v_10 h0u14
       )
      ) (fun t0u1 h0u9 =>
       Let (IntKind.wrap .i64 (s0.2 - 1) : Int) fun at0u1 =>
       K0u1 (t0u1, at0u1) h0u9
      )
     ) (
      nat_trim v_6 h0u8 fun v_14 h0u17 =>
      Q (v_14, s0.1) h0u17
     )
    ) (Sl.nil, at0) h0u7
   )
  )
def nat_Bench_Div (b : (Option Addr)) (x0 : Sl) (y : Sl) (h : Heap) (Q : (Sl × Sl) → Heap → Prop) : Prop :=
  nat_trim y h fun v h0 =>
  iteB (((v.len : Nat) : Int) == 0) (
   Q (Sl.nil, Sl.nil) h0
  ) (
   nat_divide x0 y h0 fun v_1 h0u1 =>
   nat_Bench_fit b v_1.1 h0u1 fun v_2 h0u2 =>
   nat_Bench_fit b v_1.2 h0u2 fun v_3 h0u3 =>
   nilChk b fun a =>
   Lift.load Value.bool (a.add 1) h0u3 fun v_4 =>
   iteB v_4 (
    Q (Sl.nil, Sl.nil) h0u3
   ) (
    Q (v_2, v_3) h0u3
   )
  )
def ratio_form (neg : Bool) (num : Sl) (d : Sl) (h : Heap) (Q : (Bool × Sl × Sl) → Heap → Prop) : Prop :=
  mem h fun h0 =>
  ratio_free h0 fun v h0u1 =>
  nat_Bench_Gcd v num d h0u1 fun v_1 h0u2 =>
  nat_Bench_Div v num v_1 h0u2 fun v_2 h0u3 =>
  nat_Bench_Div v d v_1 h0u3 fun v_3 h0u4 =>
  seq (fun (K0 : Sl → Heap → Prop) =>
   ratio_isOne v_3.1 h0u4 fun v_4 h0u6 =>
   iteB v_4 (
    K0 Sl.nil h0u6
   ) (
    K0 v_3.1 h0u6
   )
  ) (fun t0 h0u5 =>
   iteB (((v_2.1.len : Nat) : Int) == 0) (
    Q (false, Sl.nil, Sl.nil) h0u5
   ) (
    Q (neg, v_2.1, t0) h0u5
   )
  )
def nat_Bench_Add (b : (Option Addr)) (x0 : Sl) (y : Sl) (h : Heap) (Q : Sl → Heap → Prop) : Prop :=
  nat_plus x0 y h fun v h0 =>
  nat_Bench_fit b v h0 fun v_1 h0u1 =>
  Q v_1 h0u1
def nat_Bench_Over (b : (Option Addr)) (h : Heap) (Q : Bool → Heap → Prop) : Prop :=
  nilChk b fun a =>
  Lift.load Value.bool (a.add 1) h fun v =>
  Q v h
def ratio_fit (b : (Option Addr)) (x0 : Bool × Sl × Sl) (h : Heap) (Q : (Bool × Sl × Sl) → Heap → Prop) : Prop :=
  mem h fun h0 =>
  nat_Bench_Add b x0.2.1 Sl.nil h0 fun v h0u1 =>
  nat_Bench_Add b x0.2.2 Sl.nil h0u1 fun v_1 h0u2 =>
  nat_Bench_Over b h0u2 fun v_2 h0u3 =>
  iteB v_2 (
   Q (false, Sl.nil, Sl.nil) h0u3
  ) (
   Q (x0.1, x0.2.1, x0.2.2) h0u3
  )
def ratio_Div (b : (Option Addr)) (x0 : Bool × Sl × Sl) (y : Bool × Sl × Sl) (h : Heap) (Q : (Bool × Sl × Sl) → Heap → Prop) : Prop :=
  mem h fun h0 =>
  ratio_Sign (y.1, y.2.1, y.2.2) h0 fun v h0u1 =>
  iteB (v == 0) (
   Q (false, Sl.nil, Sl.nil) h0u1
  ) (
   ratio_free h0u1 fun v_1 h0u2 =>
   ratio_den (y.1, y.2.1, y.2.2) h0u2 fun v_2 h0u3 =>
   nat_Bench_Mul v_1 x0.2.1 v_2 h0u3 fun v_3 h0u4 =>
   ratio_den (x0.1, x0.2.1, x0.2.2) h0u4 fun v_4 h0u5 =>
   nat_Bench_Mul v_1 v_4 y.2.1 h0u5 fun v_5 h0u6 =>
   ratio_form (!(x0.1 == y.1)) v_3 v_5 h0u6 fun v_6 h0u7 =>
   ratio_fit b (v_6.1, v_6.2.1, v_6.2.2) h0u7 fun v_7 h0u8 =>
   Q (v_7.1, v_7.2.1, v_7.2.2) h0u8
  )
def ratio_over (x0 : Bool × Sl) (n : Sl) (h : Heap) (Q : (Bool × Sl) → Heap → Prop) : Prop :=
  mem h fun h0 =>
  ratio_free h0 fun v h0u1 =>
  nat_Bench_Mul v x0.2 n h0u1 fun v_1 h0u2 =>
  Q (x0.1, v_1) h0u2
def ratio_cross (x0 : Bool × Sl × Sl) (y : Bool × Sl × Sl) (h : Heap) (Q : ((Bool × Sl) × (Bool × Sl)) → Heap → Prop) : Prop :=
  mem h fun h0 =>
  ratio_den (y.1, y.2.1, y.2.2) h0 fun v h0u1 =>
  ratio_over (x0.1, x0.2.1) v h0u1 fun v_1 h0u2 =>
  ratio_den (x0.1, x0.2.1, x0.2.2) h0u2 fun v_2 h0u3 =>
  ratio_over (y.1, y.2.1) v_2 h0u3 fun v_3 h0u4 =>
  Q ((v_1.1, v_1.2), (v_3.1, v_3.2)) h0u4
def nat_Bench_Sub (b : (Option Addr)) (x0 : Sl) (y : Sl) (h : Heap) (Q : Sl → Heap → Prop) : Prop :=
  nat_Cmp x0 y h fun v h0 =>
  iteB (decide (v < 0)) (
   Q Sl.nil h0
  ) (
   nat_trim y h0 fun v_1 h0u1 =>
   nat_minus x0 v_1 h0u1 fun v_2 h0u2 =>
   nat_Bench_fit b v_2 h0u2 fun v_3 h0u3 =>
   Q v_3 h0u3
  )
def ratio_sum (x0 : Bool × Sl) (y : Bool × Sl) (h : Heap) (Q : (Bool × Sl) → Heap → Prop) : Prop :=
  mem h fun h0 =>
  ratio_free h0 fun v h0u1 =>
  iteB (x0.1 == y.1) (
   nat_Bench_Add v x0.2 y.2 h0u1 fun v_1 h0u2 =>
   Q (x0.1, v_1) h0u2
  ) (
   nat_Cmp x0.2 y.2 h0u1 fun v_2 h0u3 =>
   iteB (decide (v_2 ≥ 0)) (
    nat_Bench_Sub v x0.2 y.2 h0u3 fun v_3 h0u4 =>
    Q (x0.1, v_3) h0u4
   ) (
    nat_Bench_Sub v y.2 x0.2 h0u3 fun v_4 h0u5 =>
    Q (y.1, v_4) h0u5
   )
  )
def ratio_Add (b : (Option Addr)) (x0 : Bool × Sl × Sl) (y : Bool × Sl × Sl) (h : Heap) (Q : (Bool × Sl × Sl) → Heap → Prop) : Prop :=
  mem h fun h0 =>
  ratio_cross (x0.1, x0.2.1, x0.2.2) (y.1, y.2.1, y.2.2) h0 fun v h0u1 =>
  ratio_sum (v.1.1, v.1.2) (v.2.1, v.2.2) h0u1 fun v_1 h0u2 =>
  mem h0u2 fun h0u3 =>
  ratio_free h0u3 fun v_2 h0u4 =>
  ratio_den (x0.1, x0.2.1, x0.2.2) h0u4 fun v_3 h0u5 =>
  ratio_den (y.1, y.2.1, y.2.2) h0u5 fun v_4 h0u6 =>
  nat_Bench_Mul v_2 v_3 v_4 h0u6 fun v_5 h0u7 =>
  ratio_form v_1.1 v_1.2 v_5 h0u7 fun v_6 h0u8 =>
  ratio_fit b (v_6.1, v_6.2.1, v_6.2.2) h0u8 fun v_7 h0u9 =>
  Q (v_7.1, v_7.2.1, v_7.2.2) h0u9
def ratio_Sub (b : (Option Addr)) (x0 : Bool × Sl × Sl) (y : Bool × Sl × Sl) (h : Heap) (Q : (Bool × Sl × Sl) → Heap → Prop) : Prop :=
  mem h fun h0 =>
  ratio_Neg (y.1, y.2.1, y.2.2) h0 fun v h0u1 =>
  ratio_Add b (x0.1, x0.2.1, x0.2.2) (v.1, v.2.1, v.2.2) h0u1 fun v_1 h0u2 =>
  Q (v_1.1, v_1.2.1, v_1.2.2) h0u2
def ratio_Mul (b : (Option Addr)) (x0 : Bool × Sl × Sl) (y : Bool × Sl × Sl) (h : Heap) (Q : (Bool × Sl × Sl) → Heap → Prop) : Prop :=
  mem h fun h0 =>
  ratio_free h0 fun v h0u1 =>
  nat_Bench_Mul v x0.2.1 y.2.1 h0u1 fun v_1 h0u2 =>
  ratio_den (x0.1, x0.2.1, x0.2.2) h0u2 fun v_2 h0u3 =>
  ratio_den (y.1, y.2.1, y.2.2) h0u3 fun v_3 h0u4 =>
  nat_Bench_Mul v v_2 v_3 h0u4 fun v_4 h0u5 =>
  ratio_form (!(x0.1 == y.1)) v_1 v_4 h0u5 fun v_5 h0u6 =>
  ratio_fit b (v_5.1, v_5.2.1, v_5.2.2) h0u6 fun v_6 h0u7 =>
  Q (v_6.1, v_6.2.1, v_6.2.2) h0u7
def eval_reckon (b : (Option Addr)) (op : Int) (list : Sl) (h : Heap) (Q : (Bool × Sl × Sl) → Heap → Prop) : Prop :=
  mem h fun h0 =>
  newM h0 fun v h0u1 =>
  setM .i64 FnV.toV v 18 (FnV.mk 124 [] []) h0u1 fun h0u2 =>
  setM .i64 FnV.toV v 19 (FnV.mk 117 [] []) h0u2 fun h0u3 =>
  setM .i64 FnV.toV v 20 (FnV.mk 118 [] []) h0u3 fun h0u4 =>
  setM .i64 FnV.toV v 21 (FnV.mk 64 [] []) h0u4 fun h0u5 =>
  lookM .i64 FnV.toV FnV.nil v op h0u5 fun v_1 =>
  iteB (((list.len : Nat) : Int) == 1) (
   idxS list 0 4 fun a =>
   loadS C_bool_sl_sl 3 (a.add 1) h0u5 fun v_2 =>
   ratio_Neg (v_2.1, v_2.2.1, v_2.2.2) h0u5 fun v_3 h0u6 =>
   Q (v_3.1, v_3.2.1, v_3.2.2) h0u6
  ) (
   idxS list 0 4 fun a_1 =>
   loadS C_bool_sl_sl 3 (a_1.add 1) h0u5 fun v_4 =>
   mem h0u5 fun h0u7 =>
   sliceOf list (some 1) none none 4 fun v_5 =>
   loop (fun (s0 : Int × Bool × Sl × Sl) h0u8 (K0 : (Int × Bool × Sl × Sl) → Heap → Prop) =>
    iteB (decide (s0.1 < ((v_5.len : Nat) : Int))) (
     idxS v_5 s0.1 4 fun a_2 =>
     loadS C_bool_bool_sl_sl 4 a_2 h0u8 fun v_6 =>
     mem h0u8 fun h0u9 =>
     dyn (fun (K0u1 : (Bool × Sl × Sl) → Heap → Prop) =>
      (v_1.1 = FnV.mk 64 [] [] ∧ ratio_Div b (s0.2.1, s0.2.2.1, s0.2.2.2) (v_6.2.1, v_6.2.2.1, v_6.2.2.2) h0u9 K0u1) ∨
      (v_1.1 = FnV.mk 117 [] [] ∧ ratio_Sub b (s0.2.1, s0.2.2.1, s0.2.2.2) (v_6.2.1, v_6.2.2.1, v_6.2.2.2) h0u9 K0u1) ∨
      (v_1.1 = FnV.mk 118 [] [] ∧ ratio_Mul b (s0.2.1, s0.2.2.1, s0.2.2.2) (v_6.2.1, v_6.2.2.1, v_6.2.2.2) h0u9 K0u1) ∨
      (v_1.1 = FnV.mk 124 [] [] ∧ ratio_Add b (s0.2.1, s0.2.2.1, s0.2.2.2) (v_6.2.1, v_6.2.2.1, v_6.2.2.2) h0u9 K0u1)
     ) fun v_7 h0u10 =>
     K0 (IntKind.wrap .i64 (s0.1 + 1), v_7.1, v_7.2.1, v_7.2.2) h0u10
    ) (
     Q (s0.2.1, s0.2.2.1, s0.2.2.2) h0u8
    )
   ) (0, v_4.1, v_4.2.1, v_4.2.2) h0u7
  )
def eval_logic_c1 (v : Bool × Bool × Sl × Sl) (h : Heap) (Q : Bool → Heap → Prop) : Prop :=
  mem h fun h0 =>
  Q (!v.1) h0
def slices_IndexFunc_api_Value_api_Value__eval_logic_c1 (s0 : Sl) (h : Heap) (Q : Int → Heap → Prop) : Prop :=
  loop (fun (s0u1 : Int) h0 (K0 : Int → Heap → Prop) =>
   iteB (decide (s0u1 < ((s0.len : Nat) : Int))) (
    idxS s0 s0u1 4 fun a =>
    loadS C_bool_bool_sl_sl 4 a h0 fun v =>
    eval_logic_c1 (v.1, v.2.1, v.2.2.1, v.2.2.2) h0 fun v_1 h0u1 =>
    iteB v_1 (
     Q s0u1 h0u1
    ) (
     K0 (IntKind.wrap .i64 (s0u1 + 1)) h0u1
    )
   ) (
    Q (-1) h0
   )
  ) 0 h
def slices_ContainsFunc_api_Value_api_Value__eval_logic_c1 (s0 : Sl) (h : Heap) (Q : Bool → Heap → Prop) : Prop :=
  slices_IndexFunc_api_Value_api_Value__eval_logic_c1 s0 h fun v h0 =>
  Q (decide (v ≥ 0)) h0
def eval_truth (v : Bool × Bool × Sl × Sl) (h : Heap) (Q : Bool → Heap → Prop) : Prop :=
  mem h fun h0 =>
  Q v.1 h0
def slices_IndexFunc_api_Value_api_Value__eval_truth (s0 : Sl) (h : Heap) (Q : Int → Heap → Prop) : Prop :=
  loop (fun (s0u1 : Int) h0 (K0 : Int → Heap → Prop) =>
   iteB (decide (s0u1 < ((s0.len : Nat) : Int))) (
    idxS s0 s0u1 4 fun a =>
    loadS C_bool_bool_sl_sl 4 a h0 fun v =>
    eval_truth (v.1, v.2.1, v.2.2.1, v.2.2.2) h0 fun v_1 h0u1 =>
    iteB v_1 (
     Q s0u1 h0u1
    ) (
     K0 (IntKind.wrap .i64 (s0u1 + 1)) h0u1
    )
   ) (
    Q (-1) h0
   )
  ) 0 h
def slices_ContainsFunc_api_Value_api_Value__eval_truth (s0 : Sl) (h : Heap) (Q : Bool → Heap → Prop) : Prop :=
  slices_IndexFunc_api_Value_api_Value__eval_truth s0 h fun v h0 =>
  Q (decide (v ≥ 0)) h0
def slices_Backward_api_Value_api_Value (s0 : Sl) (h : Heap) (Q : FnV → Heap → Prop) : Prop :=
  new [Sl.toV s0] h fun s0u1 h0 =>
  Q (FnV.mk 194 [] [Value.pointer (some s0u1)]) h0
def eval_implies (list : Sl) (h : Heap) (Q : Bool → Heap → Prop) : Prop :=
  idxS list (IntKind.wrap .i64 (((list.len : Nat) : Int) - 1)) 4 fun a =>
  Lift.load Value.bool (a.add 0) h fun v =>
  new [Value.bool false] h fun out h0 =>
  Lift.store out (Value.bool v) h0 fun h0u1 =>
  sliceOf list none (some (IntKind.wrap .i64 (((list.len : Nat) : Int) - 1))) none 4 fun v_1 =>
  slices_Backward_api_Value_api_Value v_1 h0u1 fun v_2 h0u2 =>
  ∃ (c0 : Addr), v_2 = FnV.mk 194 [] [Value.pointer (some c0)] ∧
  mem h0u2 fun h0u3 =>
  backL c0 4 (fun a h k => loadS C_bool_bool_sl_sl 4 a h k) (fun (i : Int) (x0 : Bool × Bool × Sl × Sl) h0u4 K0 =>
   new [Value.bool false, Value.bool false, Sl.toV Sl.nil, Sl.toV Sl.nil] h0u4 fun v_3 h0u6 =>
   storeS v_3 [Value.bool x0.1, Value.bool x0.2.1, Sl.toV x0.2.2.1, Sl.toV x0.2.2.2] h0u6 fun h0u7 =>
   Lift.load Value.bool (v_3.add 0) h0u7 fun v_4 =>
   iteB (!v_4) (
    Lift.store out (Value.bool true) h0u7 fun h0u8 =>
    K0 h0u8
   ) (
    Lift.load Value.bool out h0u7 fun v_5 =>
    Lift.store out (Value.bool v_5) h0u7 fun h0u9 =>
    K0 h0u9
   )
  ) (fun h0u5 =>
   Lift.load Value.bool out h0u5 fun v_6 =>
   Q v_6 h0u5
  ) h0u3
def ratio_Cmp (x0 : Bool × Sl × Sl) (y : Bool × Sl × Sl) (h : Heap) (Q : Int → Heap → Prop) : Prop :=
  mem h fun h0 =>
  ratio_cross (x0.1, x0.2.1, x0.2.2) (y.1, y.2.1, y.2.2) h0 fun v h0u1 =>
  mem h0u1 fun h0u2 =>
  ratio_sum (v.1.1, v.1.2) ((!v.2.1), v.2.2) h0u2 fun v_1 h0u3 =>
  mem h0u3 fun h0u4 =>
  iteB (((v_1.2.len : Nat) : Int) == 0) (
   Q 0 h0u4
  ) (
   iteB v_1.1 (
    Q (-1) h0u4
   ) (
    Q 1 h0u4
   )
  )
def eval_same (a : Bool × Bool × Sl × Sl) (b : Bool × Bool × Sl × Sl) (h : Heap) (Q : Bool → Heap → Prop) : Prop :=
  mem h fun h0 =>
  seq (fun (K0 : Bool → Heap → Prop) =>
   iteB (a.1 == b.1) (
    ratio_Cmp (a.2.1, a.2.2.1, a.2.2.2) (b.2.1, b.2.2.1, b.2.2.2) h0 fun v h0u2 =>
    K0 (v == 0) h0u2
   ) (
    K0 false h0
   )
  ) (fun t0 h0u1 =>
   Q t0 h0u1
  )
def eval_side__eval_same (list : Sl) (h : Heap) (Q : Bool → Heap → Prop) : Prop :=
  loop (fun (s0 : Int) h0 (K0 : Int → Heap → Prop) =>
   iteB (decide (s0 < ((list.len : Nat) : Int))) (
    idxS list (IntKind.wrap .i64 (s0 - 1)) 4 fun a =>
    loadS C_bool_bool_sl_sl 4 a h0 fun v =>
    idxS list s0 4 fun a_1 =>
    loadS C_bool_bool_sl_sl 4 a_1 h0 fun v_1 =>
    eval_same (v.1, v.2.1, v.2.2.1, v.2.2.2) (v_1.1, v_1.2.1, v_1.2.2.1, v_1.2.2.2) h0 fun v_2 h0u1 =>
    iteB (!v_2) (
     Q false h0u1
    ) (
     Let (IntKind.wrap .i64 (s0 + 1) : Int) fun i =>
     K0 i h0u1
    )
   ) (
    Q true h0
   )
  ) 1 h
def eval_distinct_c1 (b : Bool × Bool × Sl × Sl) (c0 : Addr) (h : Heap) (Q : Bool → Heap → Prop) : Prop :=
  mem h fun h0 =>
  loadS C_bool_bool_sl_sl 4 c0 h0 fun v =>
  eval_same (v.1, v.2.1, v.2.2.1, v.2.2.2) (b.1, b.2.1, b.2.2.1, b.2.2.2) h0 fun v_1 h0u1 =>
  Q v_1 h0u1
def slices_IndexFunc_api_Value_api_Value__eval_distinct_c1 (s0 : Sl) (f_c : Addr) (h : Heap) (Q : Int → Heap → Prop) : Prop :=
  loop (fun (s0u1 : Int) h0 (K0 : Int → Heap → Prop) =>
   iteB (decide (s0u1 < ((s0.len : Nat) : Int))) (
    idxS s0 s0u1 4 fun a =>
    loadS C_bool_bool_sl_sl 4 a h0 fun v =>
    eval_distinct_c1 (v.1, v.2.1, v.2.2.1, v.2.2.2) f_c h0 fun v_1 h0u1 =>
    iteB v_1 (
     Q s0u1 h0u1
    ) (
     K0 (IntKind.wrap .i64 (s0u1 + 1)) h0u1
    )
   ) (
    Q (-1) h0
   )
  ) 0 h
def slices_ContainsFunc_api_Value_api_Value__eval_distinct_c1 (s0 : Sl) (f_c : Addr) (h : Heap) (Q : Bool → Heap → Prop) : Prop :=
  slices_IndexFunc_api_Value_api_Value__eval_distinct_c1 s0 f_c h fun v h0 =>
  Q (decide (v ≥ 0)) h0
def eval_distinct (list : Sl) (h : Heap) (Q : Bool → Heap → Prop) : Prop :=
  loop (fun (s0 : Int) h0 (K0 : Int → Heap → Prop) =>
   iteB (decide (s0 < ((list.len : Nat) : Int))) (
    idxS list s0 4 fun a =>
    loadS C_bool_bool_sl_sl 4 a h0 fun v =>
    new [Value.bool false, Value.bool false, Sl.toV Sl.nil, Sl.toV Sl.nil] h0 fun a_1 h0u1 =>
    storeS a_1 [Value.bool v.1, Value.bool v.2.1, Sl.toV v.2.2.1, Sl.toV v.2.2.2] h0u1 fun h0u2 =>
    sliceOf list none (some s0) none 4 fun v_1 =>
    slices_ContainsFunc_api_Value_api_Value__eval_distinct_c1 v_1 a_1 h0u2 fun v_2 h0u3 =>
    iteB v_2 (
     Q false h0u3
    ) (
     K0 (IntKind.wrap .i64 (s0 + 1)) h0u3
    )
   ) (
    Q true h0
   )
  ) 0 h
def eval_order (op : Int) (h : Heap) (Q : FnV → Heap → Prop) : Prop :=
  newM h fun v h0 =>
  setM .i64 FnV.toV v 14 (FnV.mk 187 [] []) h0 fun h0u1 =>
  setM .i64 FnV.toV v 15 (FnV.mk 188 [] []) h0u1 fun h0u2 =>
  setM .i64 FnV.toV v 16 (FnV.mk 189 [] []) h0u2 fun h0u3 =>
  setM .i64 FnV.toV v 17 (FnV.mk 190 [] []) h0u3 fun h0u4 =>
  lookM .i64 FnV.toV FnV.nil v op h0u4 fun v_1 =>
  new [Value.nilFunc] h0u4 fun so h0u5 =>
  Lift.store so (FnV.toV v_1.1) h0u5 fun h0u6 =>
  Q (FnV.mk 191 [] [Value.pointer (some so)]) h0u6
def eval_order_c1 (c : Int) (h : Heap) (Q : Bool → Heap → Prop) : Prop :=
  Q (decide (c < 0)) h
def eval_order_c2 (c : Int) (h : Heap) (Q : Bool → Heap → Prop) : Prop :=
  Q (decide (c ≤ 0)) h
def eval_order_c3 (c : Int) (h : Heap) (Q : Bool → Heap → Prop) : Prop :=
  Q (decide (c > 0)) h
def eval_order_c4 (c : Int) (h : Heap) (Q : Bool → Heap → Prop) : Prop :=
  Q (decide (c ≥ 0)) h
def eval_order_c5 (a : Bool × Bool × Sl × Sl) (b : Bool × Bool × Sl × Sl) (c0 : Addr) (h : Heap) (Q : Bool → Heap → Prop) : Prop :=
  mem h fun h0 =>
  Lift.load FnV.toV c0 h0 fun v =>
  ratio_Cmp (a.2.1, a.2.2.1, a.2.2.2) (b.2.1, b.2.2.1, b.2.2.2) h0 fun v_1 h0u1 =>
  (cell? h0u1 c0 = some (FnV.toV v)) ∧
  dyn (fun (K0 : Bool → Heap → Prop) =>
   (v = FnV.mk 187 [] [] ∧ eval_order_c1 v_1 h0u1 K0) ∨
   (v = FnV.mk 188 [] [] ∧ eval_order_c2 v_1 h0u1 K0) ∨
   (v = FnV.mk 189 [] [] ∧ eval_order_c3 v_1 h0u1 K0) ∨
   (v = FnV.mk 190 [] [] ∧ eval_order_c4 v_1 h0u1 K0)
  ) fun v_2 h0u2 =>
  Q v_2 h0u2
def eval_side (list : Sl) (so : FnV) (h : Heap) (Q : Bool → Heap → Prop) : Prop :=
  loop (fun (s0 : Int) h0 (K0 : Int → Heap → Prop) =>
   iteB (decide (s0 < ((list.len : Nat) : Int))) (
    idxS list (IntKind.wrap .i64 (s0 - 1)) 4 fun a =>
    loadS C_bool_bool_sl_sl 4 a h0 fun v =>
    idxS list s0 4 fun a_1 =>
    loadS C_bool_bool_sl_sl 4 a_1 h0 fun v_1 =>
    dyn (fun (K0u1 : Bool → Heap → Prop) =>
     (so = FnV.mk 174 [] [] ∧ eval_same (v.1, v.2.1, v.2.2.1, v.2.2.2) (v_1.1, v_1.2.1, v_1.2.2.1, v_1.2.2.2) h0 K0u1) ∨
     (∃ (dc5u0 : Addr), so = FnV.mk 191 [] [Value.pointer (some dc5u0)] ∧ eval_order_c5 (v.1, v.2.1, v.2.2.1, v.2.2.2) (v_1.1, v_1.2.1, v_1.2.2.1, v_1.2.2.2) dc5u0 h0 K0u1)
    ) fun v_2 h0u1 =>
    iteB (!v_2) (
     Q false h0u1
    ) (
     Let (IntKind.wrap .i64 (s0 + 1) : Int) fun i =>
     K0 i h0u1
    )
   ) (
    Q true h0
   )
  ) 1 h
def eval_logic (op : Int) (list : Sl) (h : Heap) (Q : Bool → Heap → Prop) : Prop :=
  iteB (op == 6) (
   idxS list 0 4 fun a =>
   Lift.load Value.bool (a.add 0) h fun v =>
   Q (!v) h
  ) (
   iteB (op == 7) (
    slices_ContainsFunc_api_Value_api_Value__eval_logic_c1 list h fun v_1 h0 =>
    Q (!v_1) h0
   ) (
    iteB (op == 8) (
     slices_ContainsFunc_api_Value_api_Value__eval_truth list h fun v_2 h0u1 =>
     Q v_2 h0u1
    ) (
     iteB (op == 9) (
      loop (fun (s0 : Bool × Int) h0u2 (K0 : (Bool × Int) → Heap → Prop) =>
       iteB (decide (s0.2 < ((list.len : Nat) : Int))) (
        idxS list s0.2 4 fun a_1 =>
        loadS C_bool_bool_sl_sl 4 a_1 h0u2 fun v_3 =>
        mem h0u2 fun h0u3 =>
        Let ((!(s0.1 == v_3.1)) : Bool) fun odd =>
        K0 (odd, IntKind.wrap .i64 (s0.2 + 1)) h0u3
       ) (
        Q s0.1 h0u2
       )
      ) (false, 0) h
     ) (
      iteB (op == 10) (
       eval_implies list h fun v_4 h0u4 =>
       Q v_4 h0u4
      ) (
       iteB (op == 12) (
        eval_side__eval_same list h fun v_5 h0u5 =>
        Q v_5 h0u5
       ) (
        iteB (op == 13) (
         eval_distinct list h fun v_6 h0u6 =>
         Q v_6 h0u6
        ) (
         eval_order op h fun v_7 h0u7 =>
         eval_side list v_7 h0u7 fun v_8 h0u8 =>
         Q v_8 h0u8
        )
       )
      )
     )
    )
   )
  )
def eval_look_value (l : (Option Addr)) (n : Int × Int × Sl × Bool × Sl × Sl) (h : Heap) (Q : (Bool × Bool × Sl × Sl) → Heap → Prop) : Prop :=
  mem h fun h0 =>
  eval_look_kids l (n.1, n.2.1, n.2.2.1, n.2.2.2.1, n.2.2.2.2.1, n.2.2.2.2.2) h0 fun v h0u1 =>
  seq (fun (K0 : Bool → Heap → Prop) =>
   Let ((n.1 == 1) : Bool) fun t11 =>
   iteB t11 (
    K0 t11 h0u1
   ) (
    Let ((n.1 == 2) : Bool) fun t11u1 =>
    K0 t11u1 h0u1
   )
  ) (fun t0 h0u2 =>
   iteB t0 (
    Q ((n.1 == 1), false, Sl.nil, Sl.nil) h0u2
   ) (
    iteB (n.1 == 3) (
     nilChk l fun a =>
     Lift.load Sl.toV (a.add 1) h0u2 fun v_1 =>
     idxS v_1 n.2.1 1 fun a_1 =>
     Lift.load Value.bool a_1 h0u2 fun v_2 =>
     Q (v_2, false, Sl.nil, Sl.nil) h0u2
    ) (
     iteB (n.1 == 4) (
      nilChk l fun a_2 =>
      Lift.load Sl.toV (a_2.add 2) h0u2 fun v_3 =>
      idxS v_3 n.2.1 3 fun a_3 =>
      loadS C_bool_sl_sl 3 a_3 h0u2 fun v_4 =>
      Q (false, v_4.1, v_4.2.1, v_4.2.2) h0u2
     ) (
      iteB (n.1 == 5) (
       Q (false, n.2.2.2.1, n.2.2.2.2.1, n.2.2.2.2.2) h0u2
      ) (
       iteB (n.1 == 11) (
        idxS v 0 4 fun a_4 =>
        Lift.load Value.bool (a_4.add 0) h0u2 fun v_5 =>
        iteB v_5 (
         idxS v 1 4 fun a_5 =>
         loadS C_bool_bool_sl_sl 4 a_5 h0u2 fun v_6 =>
         Q (v_6.1, v_6.2.1, v_6.2.2.1, v_6.2.2.2) h0u2
        ) (
         idxS v 2 4 fun a_6 =>
         loadS C_bool_bool_sl_sl 4 a_6 h0u2 fun v_7 =>
         Q (v_7.1, v_7.2.1, v_7.2.2.1, v_7.2.2.2) h0u2
        )
       ) (
        seq (fun (K0u1 : Bool → Heap → Prop) =>
         Let ((n.1 == 18) : Bool) fun t57 =>
         iteB t57 (
          K0u1 t57 h0u2
         ) (
          Let ((n.1 == 19) : Bool) fun t57u1 =>
          iteB t57u1 (
           K0u1 t57u1 h0u2
          ) (
           Let ((n.1 == 20) : Bool) fun t57u2 =>
           iteB t57u2 (
            K0u1 t57u2 h0u2
           ) (
            Let ((n.1 == 21) : Bool) fun t57u3 =>
            K0u1 t57u3 h0u2
           )
          )
         )
        ) (fun t0u1 h0u3 =>
         iteB t0u1 (
          nilChk l fun a_7 =>
          Lift.load Value.pointer (a_7.add 0) h0u3 fun v_8 =>
          eval_reckon v_8 n.1 v h0u3 fun v_9 h0u4 =>
          Q (false, v_9.1, v_9.2.1, v_9.2.2) h0u4
         ) (
          eval_logic n.1 v h0u3 fun v_10 h0u5 =>
          Q (v_10, false, Sl.nil, Sl.nil) h0u5
         )
        )
       )
      )
     )
    )
   )
  )
def eval_All (b : (Option Addr)) (nodes : Sl) (bools : Sl) (reals : Sl) (h : Heap) (Q : (Sl × Int) → Heap → Prop) : Prop :=
  seq (fun (K0 : Bool → Heap → Prop) =>
   term_Right nodes ((bools.len : Nat) : Int) ((reals.len : Nat) : Int) h fun v h0u1 =>
   iteB (!v) (
    K0 true h0u1
   ) (
    slices_ContainsFunc_api_Ratio_api_Ratio__eval_All_c1 reals h0u1 fun v_1 h0u2 =>
    K0 v_1 h0u2
   )
  ) (fun t0 h0 =>
   iteB t0 (
    Q (Sl.nil, 1) h0
   ) (
    new [Value.pointer b, Sl.toV bools, Sl.toV reals, Sl.toV nodes, Sl.toV Sl.nil] h0 fun a h0u3 =>
    loop (fun (s0 : Int) h0u4 (K0u1 : Int → Heap → Prop) =>
     iteB (decide (s0 < ((nodes.len : Nat) : Int))) (
      idxS nodes s0 6 fun a_1 =>
      loadS C_i64ui64usl_bool_sl_sl 6 a_1 h0u4 fun v_2 =>
      mem h0u4 fun h0u5 =>
      Lift.load Sl.toV (a.add 4) h0u5 fun v_3 =>
      eval_look_value (some a) (v_2.1, v_2.2.1, v_2.2.2.1, v_2.2.2.2.1, v_2.2.2.2.2.1, v_2.2.2.2.2.2) h0u5 fun v_4 h0u6 =>
      (cell? h0u6 (a.add 4) = some (Sl.toV v_3)) ∧
      new [Value.bool v_4.1, Value.bool v_4.2.1, Sl.toV v_4.2.2.1, Sl.toV v_4.2.2.2] h0u6 fun a_2 h0u7 =>
      (cell? h0u7 (a.add 4) = some (Sl.toV v_3)) ∧
      appendS 4 64 v_3 (⟨some a_2, 1, 1⟩ : Sl) h0u7 fun v_6 h0u8 =>
      Lift.store (a.add 4) (Sl.toV v_6) h0u8 fun h0u9 =>
      K0u1 (IntKind.wrap .i64 (s0 + 1)) h0u9
     ) (
      nat_Bench_Over b h0u4 fun v_7 h0u10 =>
      iteB v_7 (
       Q (Sl.nil, 6) h0u10
      ) (
       Lift.load Sl.toV (a.add 4) h0u10 fun v_8 =>
       Q (v_8, 0) h0u10
      )
     )
    ) 0 h0u3
   )
  )
def law10uspeaks (h : Heap) (Q : Bool → Heap → Prop) : Prop :=
  ratio_Of 1 h fun v h0 =>
  ratio_Of 2 h0 fun v_1 h0u1 =>
  ratio_Of 3 h0u1 fun v_2 h0u2 =>
  new [Value.int .i64 0, Value.int .i64 1, Value.int .i64 2] h0u2 fun a h0u3 =>
  new [Value.int .i64 5, Value.int .i64 0, Sl.toV Sl.nil, Value.bool v.1, Sl.toV v.2.1, Sl.toV v.2.2, Value.int .i64 5, Value.int .i64 0, Sl.toV Sl.nil, Value.bool v_1.1, Sl.toV v_1.2.1, Sl.toV v_1.2.2, Value.int .i64 5, Value.int .i64 0, Sl.toV Sl.nil, Value.bool v_2.1, Sl.toV v_2.2.1, Sl.toV v_2.2.2, Value.int .i64 14, Value.int .i64 0, Sl.toV (⟨some a, 3, 3⟩ : Sl), Value.bool false, Sl.toV Sl.nil, Sl.toV Sl.nil] h0u3 fun a_1 h0u4 =>
  Let ((⟨some a_1, 4, 4⟩ : Sl) : Sl) fun l =>
  nat_New 1 h0u4 fun v_5 h0u5 =>
  eval_All v_5 l Sl.nil Sl.nil h0u5 fun v_6 h0u6 =>
  seq (fun (K0 : Bool → Heap → Prop) =>
   iteB (v_6.2 == 0) (
    iteB (((v_6.1.len : Nat) : Int) == 4) (
     idxS v_6.1 3 4 fun a_2 =>
     Lift.load Value.bool (a_2.add 0) h0u6 fun v_7 =>
     K0 v_7 h0u6
    ) (
     K0 false h0u6
    )
   ) (
    K0 false h0u6
   )
  ) (fun t0 h0u7 =>
   Q t0 h0u7
  )
def law02uGreat (l : Sl) (h : Heap) (Q : Bool → Heap → Prop) : Prop :=
  loop (fun (s0 : Int) h0 (K0 : Int → Heap → Prop) =>
   iteB (decide (s0 < ((l.len : Nat) : Int))) (
    idxS l s0 3 fun a =>
    loadS C_bool_sl_sl 3 a h0 fun v =>
    mem h0 fun h0u1 =>
    seq (fun (K0u1 : Bool → Heap → Prop) =>
     iteB (decide (((v.2.1.len : Nat) : Int) > 6)) (
      K0u1 true h0u1
     ) (
      K0u1 (decide (((v.2.2.len : Nat) : Int) > 6)) h0u1
     )
    ) (fun t0 h0u2 =>
     iteB t0 (
      Q true h0u2
     ) (
      K0 (IntKind.wrap .i64 (s0 + 1)) h0u2
     )
    )
   ) (
    Q false h0
   )
  ) 0 h
def ref01uCut (x0 : Sl) (h : Heap) (Q : Sl → Heap → Prop) : Prop :=
  Let (((x0.len : Nat) : Int) : Int) fun n =>
  loop (fun (s0 : Int) h0 (K0 : Int → Heap → Prop) =>
   seq (fun (K0u1 : Bool → Heap → Prop) =>
    iteB (decide (s0 > 0)) (
     idxS x0 (IntKind.wrap .i64 (s0 - 1)) 1 fun a =>
     Lift.load (Value.int .i64) a h0 fun v =>
     K0u1 (v == 0) h0
    ) (
     K0u1 false h0
    )
   ) (fun t0 h0u1 =>
    iteB t0 (
     Let (IntKind.wrap .i64 (s0 - 1) : Int) fun n_1 =>
     K0 n_1 h0u1
    ) (
     sliceOf x0 none (some s0) none 1 fun v_1 =>
     Q v_1 h0u1
    )
   )
  ) n h
def ref01uOf (x0 : Sl) (h : Heap) (Q : Sl → Heap → Prop) : Prop :=
  new [] h fun a h0 =>
  Let ((⟨some a, 0, 0⟩ : Sl) : Sl) fun out =>
  Let (IntKind.wrap .i64 (((x0.len : Nat) : Int) - 1) : Int) fun i =>
  loop (fun (s0 : Sl × Int) h0u1 (K0 : (Sl × Int) → Heap → Prop) =>
   iteB (decide (s0.2 ≥ 0)) (
    idxS x0 s0.2 1 fun a_1 =>
    Lift.load (Value.int .u32) a_1 h0u1 fun v_1 =>
    Let (IntKind.wrap .i64 v_1 : Int) fun carry =>
    loop (fun (s0u1 : Int × Int) h0u2 (K0u1 : (Int × Int) → Heap → Prop) =>
     iteB (decide (s0u1.2 < ((s0.1.len : Nat) : Int))) (
      idxS s0.1 s0u1.2 1 fun a_2 =>
      Lift.load (Value.int .i64) a_2 h0u2 fun v_2 =>
      Let (IntKind.wrap .i64 ((IntKind.wrap .i64 (v_2 * 4294967296)) + s0u1.1) : Int) fun n =>
      idxS s0.1 s0u1.2 1 fun a_3 =>
      Lift.store a_3 (Value.int .i64 (Int.tmod n 10)) h0u2 fun h0u3 =>
      Let (IntKind.wrap .i64 (Int.tdiv n 10) : Int) fun carry_1 =>
      Let (IntKind.wrap .i64 (s0u1.2 + 1) : Int) fun k =>
      K0u1 (carry_1, k) h0u3
     ) (
      loop (fun (s0u2 : Sl × Int) h0u4 (K0u2 : (Sl × Int) → Heap → Prop) =>
       iteB (decide (s0u2.2 > 0)) (
        new [Value.int .i64 (Int.tmod s0u2.2 10)] h0u4 fun a_4 h0u5 =>
        appendS 1 8 s0u2.1 (⟨some a_4, 1, 1⟩ : Sl) h0u5 fun v_4 h0u6 =>
        Let (IntKind.wrap .i64 (Int.tdiv s0u2.2 10) : Int) fun carry_2 =>
        K0u2 (v_4, carry_2) h0u6
       ) (
        Let (IntKind.wrap .i64 (s0.2 - 1) : Int) fun i_1 =>
        K0 (s0u2.1, i_1) h0u4
       )
      ) (s0.1, s0u1.1) h0u2
     )
    ) (carry, 0) h0u1
   ) (
    ref01uCut s0.1 h0u1 fun v_5 h0u7 =>
    Q v_5 h0u7
   )
  ) (out, i) h0
def ref02uOf (x0 : Bool × Sl × Sl) (h : Heap) (Q : (Bool × Sl × Sl) → Heap → Prop) : Prop :=
  mem h fun h0 =>
  seq (fun (K0 : (Bool × Sl × Sl) → Heap → Prop) =>
   mem h0 fun h0u2 =>
   ref01uOf x0.2.1 h0u2 fun v_3 h0u9 =>
   mem h0u9 fun h0u10 =>
   ref01uOf x0.2.2 h0u10 fun v_4 h0u11 =>
   mem h0u11 fun h0u12 =>
   K0 (x0.1, v_3, v_4) h0u12
  ) (fun t0 h0u1 =>
   seq (fun (K0u1 : (Bool × Sl × Sl) → Heap → Prop) =>
    iteB (((t0.2.2.len : Nat) : Int) == 0) (
     new [Value.int .i64 1] h0u1 fun a h0u14 =>
     K0u1 (t0.1, t0.2.1, (⟨some a, 1, 1⟩ : Sl)) h0u14
    ) (
     K0u1 (t0.1, t0.2.1, t0.2.2) h0u1
    )
   ) (fun t0u1 h0u13 =>
    Q (t0u1.1, t0u1.2.1, t0u1.2.2) h0u13
   )
  )
def ref02uInt (n : Int) (h : Heap) (Q : (Bool × Sl × Sl) → Heap → Prop) : Prop :=
  mem h fun h0 =>
  new [] h0 fun a h0u1 =>
  new [Value.int .i64 1] h0u1 fun a_1 h0u2 =>
  mem h0u2 fun h0u3 =>
  seq (fun (K0 : Int → Heap → Prop) =>
   iteB (decide (n < 0)) (
    Let (IntKind.wrap .i64 (0 - n) : Int) fun n_1 =>
    K0 n_1 h0u3
   ) (
    K0 n h0u3
   )
  ) (fun t0 h0u4 =>
   loop (fun (s0 : Int × Bool × Sl × Sl) h0u5 (K0u1 : (Int × Bool × Sl × Sl) → Heap → Prop) =>
    iteB (decide (s0.1 > 0)) (
     new [Value.int .i64 (Int.tmod s0.1 10)] h0u5 fun a_2 h0u6 =>
     appendS 1 8 s0.2.2.1 (⟨some a_2, 1, 1⟩ : Sl) h0u6 fun v_3 h0u7 =>
     Let (IntKind.wrap .i64 (Int.tdiv s0.1 10) : Int) fun n_2 =>
     K0u1 (n_2, s0.2.1, v_3, s0.2.2.2) h0u7
    ) (
     Q (s0.2.1, s0.2.2.1, s0.2.2.2) h0u5
    )
   ) (t0, decide (n < 0), (⟨some a, 0, 0⟩ : Sl), (⟨some a_1, 1, 1⟩ : Sl)) h0u4
  )
def ref01uCmp (x0 : Sl) (y : Sl) (h : Heap) (Q : Int → Heap → Prop) : Prop :=
  iteB (((x0.len : Nat) : Int) != ((y.len : Nat) : Int)) (
   iteB (decide (((x0.len : Nat) : Int) < ((y.len : Nat) : Int))) (
    Q (-1) h
   ) (
    Q 1 h
   )
  ) (
   Let (IntKind.wrap .i64 (((x0.len : Nat) : Int) - 1) : Int) fun i =>
   loop (fun (s0 : Int) h0 (K0 : Int → Heap → Prop) =>
    iteB (decide (s0 ≥ 0)) (
     idxS x0 s0 1 fun a =>
     Lift.load (Value.int .i64) a h0 fun v =>
     idxS y s0 1 fun a_1 =>
     Lift.load (Value.int .i64) a_1 h0 fun v_1 =>
     iteB (decide (v < v_1)) (
      Q (-1) h0
     ) (
      idxS x0 s0 1 fun a_2 =>
      Lift.load (Value.int .i64) a_2 h0 fun v_2 =>
      idxS y s0 1 fun a_3 =>
      Lift.load (Value.int .i64) a_3 h0 fun v_3 =>
      iteB (decide (v_2 > v_3)) (
       Q 1 h0
      ) (
       Let (IntKind.wrap .i64 (s0 - 1) : Int) fun i_1 =>
       K0 i_1 h0
      )
     )
    ) (
     Q 0 h0
    )
   ) i h
  )
def ref01uSub (x0 : Sl) (y : Sl) (h : Heap) (Q : Sl → Heap → Prop) : Prop :=
  ref01uCmp x0 y h fun v h0 =>
  iteB (decide (v < 0)) (
   new [] h0 fun a h0u1 =>
   Q (⟨some a, 0, 0⟩ : Sl) h0u1
  ) (
   new [] h0 fun a_1 h0u2 =>
   Let ((⟨some a_1, 0, 0⟩ : Sl) : Sl) fun out =>
   loop (fun (s0 : Sl × Int × Int) h0u3 (K0 : (Sl × Int × Int) → Heap → Prop) =>
    iteB (decide (s0.2.2 < ((x0.len : Nat) : Int))) (
     idxS x0 s0.2.2 1 fun a_2 =>
     Lift.load (Value.int .i64) a_2 h0u3 fun v_3 =>
     Let (IntKind.wrap .i64 (v_3 - s0.2.1) : Int) fun n =>
     seq (fun (K0u1 : Int → Heap → Prop) =>
      iteB (decide (s0.2.2 < ((y.len : Nat) : Int))) (
       idxS y s0.2.2 1 fun a_3 =>
       Lift.load (Value.int .i64) a_3 h0u3 fun v_4 =>
       Let (IntKind.wrap .i64 (n - v_4) : Int) fun n_1 =>
       K0u1 n_1 h0u3
      ) (
       K0u1 n h0u3
      )
     ) (fun t0 h0u4 =>
      seq (fun (K0u2 : (Int × Int) → Heap → Prop) =>
       iteB (decide (t0 < 0)) (
        Let (IntKind.wrap .i64 (t0 + 10) : Int) fun n_2 =>
        K0u2 (1, n_2) h0u4
       ) (
        K0u2 (0, t0) h0u4
       )
      ) (fun t0u1 h0u5 =>
       new [Value.int .i64 t0u1.2] h0u5 fun a_4 h0u6 =>
       appendS 1 8 s0.1 (⟨some a_4, 1, 1⟩ : Sl) h0u6 fun v_6 h0u7 =>
       Let (IntKind.wrap .i64 (s0.2.2 + 1) : Int) fun i =>
       K0 (v_6, t0u1.1, i) h0u7
      )
     )
    ) (
     ref01uCut s0.1 h0u3 fun v_7 h0u8 =>
     Q v_7 h0u8
    )
   ) (out, 0, 0) h0u2
  )
def ref01uDiv (x0 : Sl) (y : Sl) (h : Heap) (Q : (Sl × Sl) → Heap → Prop) : Prop :=
  iteB (((y.len : Nat) : Int) == 0) (
   new [] h fun a h0 =>
   new [] h0 fun a_1 h0u1 =>
   Q ((⟨some a, 0, 0⟩ : Sl), (⟨some a_1, 0, 0⟩ : Sl)) h0u1
  ) (
   Let (((x0.len : Nat) : Int) : Int) fun t15 =>
   mkS [Value.int .i64 0] 8 t15 t15 h fun v_2 h0u2 =>
   new [] h0u2 fun a_2 h0u3 =>
   Let ((⟨some a_2, 0, 0⟩ : Sl) : Sl) fun r =>
   Let (IntKind.wrap .i64 (((x0.len : Nat) : Int) - 1) : Int) fun i =>
   loop (fun (s0 : Sl × Int) h0u4 (K0 : (Sl × Int) → Heap → Prop) =>
    iteB (decide (s0.2 ≥ 0)) (
     idxS x0 s0.2 1 fun a_3 =>
     Lift.load (Value.int .i64) a_3 h0u4 fun v_4 =>
     new [Value.int .i64 v_4] h0u4 fun a_4 h0u5 =>
     appendS 1 8 (⟨some a_4, 1, 1⟩ : Sl) s0.1 h0u5 fun v_6 h0u6 =>
     ref01uCut v_6 h0u6 fun v_7 h0u7 =>
     loop (fun (s0u1 : Sl) h0u8 (K0u1 : Sl → Heap → Prop) =>
      ref01uCmp s0u1 y h0u8 fun v_8 h0u9 =>
      iteB (decide (v_8 ≥ 0)) (
       ref01uSub s0u1 y h0u9 fun v_9 h0u10 =>
       idxS v_2 s0.2 1 fun a_5 =>
       Lift.load (Value.int .i64) a_5 h0u10 fun v_10 =>
       idxS v_2 s0.2 1 fun a_6 =>
       Lift.store a_6 (Value.int .i64 (IntKind.wrap .i64 (v_10 + 1))) h0u10 fun h0u11 =>
       K0u1 v_9 h0u11
      ) (
       Let (IntKind.wrap .i64 (s0.2 - 1) : Int) fun i_1 =>
       K0 (s0u1, i_1) h0u9
      )
     ) v_7 h0u7
    ) (
     ref01uCut v_2 h0u4 fun v_11 h0u12 =>
     Q (v_11, s0.1) h0u12
    )
   ) (r, i) h0u3
  )
def ref01uGcd (x0 : Sl) (y : Sl) (h : Heap) (Q : Sl → Heap → Prop) : Prop :=
  loop (fun (s0 : Sl × Sl) h0 (K0 : (Sl × Sl) → Heap → Prop) =>
   iteB (decide (((s0.2.len : Nat) : Int) > 0)) (
    ref01uDiv s0.1 s0.2 h0 fun v h0u1 =>
    K0 (s0.2, v.2) h0u1
   ) (
    Q s0.1 h0
   )
  ) (x0, y) h
def ref02uLow (r : Bool × Sl × Sl) (h : Heap) (Q : (Bool × Sl × Sl) → Heap → Prop) : Prop :=
  mem h fun h0 =>
  iteB (((r.2.1.len : Nat) : Int) == 0) (
   ref02uInt 0 h0 fun v h0u1 =>
   Q (v.1, v.2.1, v.2.2) h0u1
  ) (
   ref01uGcd r.2.1 r.2.2 h0 fun v_1 h0u2 =>
   ref01uDiv r.2.1 v_1 h0u2 fun v_2 h0u3 =>
   ref01uDiv r.2.2 v_1 h0u3 fun v_3 h0u4 =>
   Q (r.1, v_2.1, v_3.1) h0u4
  )
def ref01uLimbs (x0 : Sl) (h : Heap) (Q : Sl → Heap → Prop) : Prop :=
  new [] h fun a h0 =>
  Let ((⟨some a, 0, 0⟩ : Sl) : Sl) fun out =>
  Let (IntKind.wrap .i64 (((x0.len : Nat) : Int) - 1) : Int) fun i =>
  loop (fun (s0 : Sl × Int) h0u1 (K0 : (Sl × Int) → Heap → Prop) =>
   iteB (decide (s0.2 ≥ 0)) (
    seq (fun (K0u1 : Sl → Heap → Prop) =>
     idxS x0 s0.2 1 fun a_1 =>
     Lift.load (Value.int .i64) a_1 h0u1 fun v_1 =>
     Let (IntKind.wrap .u64 v_1 : Int) fun carry =>
     loop (fun (s0u1 : Int × Int) h0u3 (K0u2 : (Int × Int) → Heap → Prop) =>
      iteB (decide (s0u1.2 < ((s0.1.len : Nat) : Int))) (
       idxS s0.1 s0u1.2 1 fun a_2 =>
       Lift.load (Value.int .u32) a_2 h0u3 fun v_2 =>
       Let (IntKind.wrap .u64 ((IntKind.wrap .u64 ((IntKind.wrap .u64 v_2) * 10)) + s0u1.1) : Int) fun n =>
       idxS s0.1 s0u1.2 1 fun a_3 =>
       Lift.store a_3 (Value.int .u32 (IntKind.wrap .u32 (Int.tmod n 4294967296))) h0u3 fun h0u4 =>
       Let (IntKind.wrap .u64 (Int.tdiv n 4294967296) : Int) fun carry_1 =>
       Let (IntKind.wrap .i64 (s0u1.2 + 1) : Int) fun k =>
       K0u2 (carry_1, k) h0u4
      ) (
       iteB (decide (s0u1.1 > 0)) (
        new [Value.int .u32 (IntKind.wrap .u32 s0u1.1)] h0u3 fun a_4 h0u5 =>
        appendS 1 4 s0.1 (⟨some a_4, 1, 1⟩ : Sl) h0u5 fun v_4 h0u6 =>
        K0u1 v_4 h0u6
       ) (
        K0u1 s0.1 h0u3
       )
      )
     ) (carry, 0) h0u1
    ) (fun t0 h0u2 =>
     Let (IntKind.wrap .i64 (s0.2 - 1) : Int) fun i_1 =>
     K0 (t0, i_1) h0u2
    )
   ) (
    Q s0.1 h0u1
   )
  ) (out, i) h0
def ref02uForm (r : Bool × Sl × Sl) (h : Heap) (Q : (Bool × Sl × Sl) → Heap → Prop) : Prop :=
  mem h fun h0 =>
  ref02uLow (r.1, r.2.1, r.2.2) h0 fun v h0u1 =>
  seq (fun (K0 : (Bool × Sl × Sl) → Heap → Prop) =>
   mem h0u1 fun h0u3 =>
   ref01uLimbs v.2.1 h0u3 fun v_2 h0u6 =>
   mem h0u6 fun h0u7 =>
   K0 (v.1, v_2, Sl.nil) h0u7
  ) (fun t0 h0u2 =>
   seq (fun (K0u1 : (Bool × Sl × Sl) → Heap → Prop) =>
    seq (fun (K0u2 : Bool → Heap → Prop) =>
     iteB (((v.2.2.len : Nat) : Int) != 1) (
      K0u2 true h0u2
     ) (
      idxS v.2.2 0 1 fun a =>
      Lift.load (Value.int .i64) a h0u2 fun v_3 =>
      K0u2 (v_3 != 1) h0u2
     )
    ) (fun t0u2 h0u9 =>
     iteB t0u2 (
      ref01uLimbs v.2.2 h0u9 fun v_4 h0u10 =>
      K0u1 (t0.1, t0.2.1, v_4) h0u10
     ) (
      K0u1 (t0.1, t0.2.1, t0.2.2) h0u9
     )
    )
   ) (fun t0u1 h0u8 =>
    Q (t0u1.1, t0u1.2.1, t0u1.2.2) h0u8
   )
  )
def ref01uSame (a : Sl) (b : Sl) (h : Heap) (Q : Bool → Heap → Prop) : Prop :=
  iteB (((a.len : Nat) : Int) != ((b.len : Nat) : Int)) (
   Q false h
  ) (
   loop (fun (s0 : Int) h0 (K0 : Int → Heap → Prop) =>
    iteB (decide (s0 < ((a.len : Nat) : Int))) (
     idxS a s0 1 fun a_1 =>
     Lift.load (Value.int .u32) a_1 h0 fun v =>
     idxS b s0 1 fun a_2 =>
     Lift.load (Value.int .u32) a_2 h0 fun v_1 =>
     iteB (v != v_1) (
      Q false h0
     ) (
      Let (IntKind.wrap .i64 (s0 + 1) : Int) fun i =>
      K0 i h0
     )
    ) (
     Q true h0
    )
   ) 0 h
  )
def ref02uSame (x0 : Bool × Sl × Sl) (y : Bool × Sl × Sl) (h : Heap) (Q : Bool → Heap → Prop) : Prop :=
  mem h fun h0 =>
  seq (fun (K0 : Bool → Heap → Prop) =>
   iteB (x0.1 == y.1) (
    ref01uSame x0.2.1 y.2.1 h0 fun v h0u2 =>
    iteB v (
     ref01uSame x0.2.2 y.2.2 h0u2 fun v_1 h0u3 =>
     K0 v_1 h0u3
    ) (
     K0 false h0u2
    )
   ) (
    K0 false h0
   )
  ) (fun t0 h0u1 =>
   Q t0 h0u1
  )
def ref02uRight (x0 : Bool × Sl × Sl) (h : Heap) (Q : Bool → Heap → Prop) : Prop :=
  mem h fun h0 =>
  seq (fun (K0 : Bool → Heap → Prop) =>
   iteB (decide (((x0.2.1.len : Nat) : Int) > 0)) (
    idxS x0.2.1 (IntKind.wrap .i64 (((x0.2.1.len : Nat) : Int) - 1)) 1 fun a =>
    Lift.load (Value.int .u32) a h0 fun v =>
    iteB (v == 0) (
     K0 true h0
    ) (
     iteB (decide (((x0.2.2.len : Nat) : Int) > 0)) (
      idxS x0.2.2 (IntKind.wrap .i64 (((x0.2.2.len : Nat) : Int) - 1)) 1 fun a_1 =>
      Lift.load (Value.int .u32) a_1 h0 fun v_1 =>
      iteB (v_1 == 0) (
       K0 true h0
      ) (
       iteB (((x0.2.1.len : Nat) : Int) == 0) (
        K0 x0.1 h0
       ) (
        K0 false h0
       )
      )
     ) (
      iteB (((x0.2.1.len : Nat) : Int) == 0) (
       K0 x0.1 h0
      ) (
       K0 false h0
      )
     )
    )
   ) (
    iteB (decide (((x0.2.2.len : Nat) : Int) > 0)) (
     idxS x0.2.2 (IntKind.wrap .i64 (((x0.2.2.len : Nat) : Int) - 1)) 1 fun a_2 =>
     Lift.load (Value.int .u32) a_2 h0 fun v_2 =>
     iteB (v_2 == 0) (
      K0 true h0
     ) (
      iteB (((x0.2.1.len : Nat) : Int) == 0) (
       K0 x0.1 h0
      ) (
       K0 false h0
      )
     )
    ) (
     iteB (((x0.2.1.len : Nat) : Int) == 0) (
      K0 x0.1 h0
     ) (
      K0 false h0
     )
    )
   )
  ) (fun t0 h0u1 =>
   iteB t0 (
    Q false h0u1
   ) (
    ref02uOf (x0.1, x0.2.1, x0.2.2) h0u1 fun v_3 h0u2 =>
    ref02uForm (v_3.1, v_3.2.1, v_3.2.2) h0u2 fun v_4 h0u3 =>
    ref02uSame (x0.1, x0.2.1, x0.2.2) (v_4.1, v_4.2.1, v_4.2.2) h0u3 fun v_5 h0u4 =>
    Q v_5 h0u4
   )
  )
def law10uEvalRules_c1 (op : Int) (kids : Sl) (c0 : Addr) (h : Heap) (Q : Int → Heap → Prop) : Prop :=
  Lift.load Sl.toV c0 h fun v =>
  new [Value.int .i64 op, Value.int .i64 0, Sl.toV kids, Value.bool false, Sl.toV Sl.nil, Sl.toV Sl.nil] h fun a h0 =>
  appendS 6 96 v (⟨some a, 1, 1⟩ : Sl) h0 fun v_2 h0u1 =>
  Lift.store c0 (Sl.toV v_2) h0u1 fun h0u2 =>
  Lift.load Sl.toV c0 h0u2 fun v_3 =>
  Q (IntKind.wrap .i64 (((v_3.len : Nat) : Int) - 1)) h0u2
def term_Terms_Sort (t0 : (Option Addr)) (at0 : Int) (h : Heap) (Q : Int → Heap → Prop) : Prop :=
  term_Terms_there t0 at0 h fun v h0 =>
  iteB (!v) (
   Q 0 h0
  ) (
   nilChk t0 fun a =>
   Lift.load Sl.toV (a.add 2) h0 fun v_1 =>
   idxS v_1 at0 1 fun a_1 =>
   Lift.load (Value.int .i64) a_1 h0 fun v_2 =>
   Q v_2 h0
  )
def eval_True (b : (Option Addr)) (s0 : Sl × Sl × Sl × Sl × Bool × Bool) (bools : Sl) (reals : Sl) (h : Heap) (Q : (Bool × Int) → Heap → Prop) : Prop :=
  mem h fun h0 =>
  eval_All b s0.2.2.1 bools reals h0 fun v h0u1 =>
  iteB (v.2 != 0) (
   Q (false, v.2) h0u1
  ) (
   term_New ((bools.len : Nat) : Int) ((reals.len : Nat) : Int) h0u1 fun v_1 h0u2 =>
   loop (fun (s0u1 : Int) h0u3 (K0 : Int → Heap → Prop) =>
    iteB (decide (s0u1 < ((s0.2.2.1.len : Nat) : Int))) (
     idxS s0.2.2.1 s0u1 6 fun a =>
     loadS C_i64ui64usl_bool_sl_sl 6 a h0u3 fun v_2 =>
     mem h0u3 fun h0u4 =>
     term_Terms_Add v_1 (v_2.1, v_2.2.1, v_2.2.2.1, v_2.2.2.2.1, v_2.2.2.2.2.1, v_2.2.2.2.2.2) h0u4 fun v_3 h0u5 =>
     K0 (IntKind.wrap .i64 (s0u1 + 1)) h0u5
    ) (
     loop (fun (s0u2 : Bool × Int) h0u6 (K0u1 : (Bool × Int) → Heap → Prop) =>
      iteB (decide (s0u2.2 < ((s0.2.2.2.1.len : Nat) : Int))) (
       seq (fun (K0u2 : Bool → Heap → Prop) =>
        idxS s0.2.2.2.1 s0u2.2 1 fun a_1 =>
        Lift.load (Value.int .i64) a_1 h0u6 fun v_4 =>
        term_Terms_Sort v_1 v_4 h0u6 fun v_5 h0u8 =>
        iteB (v_5 != 1) (
         Q (false, 2) h0u8
        ) (
         iteB s0u2.1 (
          idxS v.1 v_4 4 fun a_2 =>
          Lift.load Value.bool (a_2.add 0) h0u8 fun v_6 =>
          K0u2 v_6 h0u8
         ) (
          K0u2 false h0u8
         )
        )
       ) (fun t0 h0u7 =>
        K0u1 (t0, IntKind.wrap .i64 (s0u2.2 + 1)) h0u7
       )
      ) (
       Q (s0u2.1, 0) h0u6
      )
     ) (true, 0) h0u3
    )
   ) 0 h0u2
  )
def law10uEvalRules (p : Bool) (q : Bool) (x0 : Bool × Sl × Sl) (y : Bool × Sl × Sl) (h : Heap) (Q : Bool → Heap → Prop) : Prop :=
  mem h fun h0 =>
  law10uspeaks h0 fun v h0u1 =>
  iteB (!v) (
   Q false h0u1
  ) (
   seq (fun (K0 : Bool → Heap → Prop) =>
    new [Value.bool x0.1, Sl.toV x0.2.1, Sl.toV x0.2.2, Value.bool y.1, Sl.toV y.2.1, Sl.toV y.2.2] h0u1 fun a h0u3 =>
    law02uGreat (⟨some a, 2, 2⟩ : Sl) h0u3 fun v_2 h0u4 =>
    iteB v_2 (
     K0 true h0u4
    ) (
     ref02uRight (x0.1, x0.2.1, x0.2.2) h0u4 fun v_3 h0u5 =>
     iteB (!v_3) (
      K0 true h0u5
     ) (
      ref02uRight (y.1, y.2.1, y.2.2) h0u5 fun v_4 h0u6 =>
      K0 (!v_4) h0u6
     )
    )
   ) (fun t0 h0u2 =>
    iteB t0 (
     Q true h0u2
    ) (
     new [Value.int .i64 3, Value.int .i64 0, Sl.toV Sl.nil, Value.bool false, Sl.toV Sl.nil, Sl.toV Sl.nil, Value.int .i64 3, Value.int .i64 1, Sl.toV Sl.nil, Value.bool false, Sl.toV Sl.nil, Sl.toV Sl.nil, Value.int .i64 4, Value.int .i64 0, Sl.toV Sl.nil, Value.bool false, Sl.toV Sl.nil, Sl.toV Sl.nil, Value.int .i64 4, Value.int .i64 1, Sl.toV Sl.nil, Value.bool false, Sl.toV Sl.nil, Sl.toV Sl.nil] h0u2 fun a_1 h0u7 =>
     new [Sl.toV Sl.nil] h0u7 fun l h0u8 =>
     Lift.store l (Sl.toV (⟨some a_1, 4, 4⟩ : Sl)) h0u8 fun h0u9 =>
     new [Value.int .i64 0, Value.int .i64 1] h0u9 fun a_2 h0u10 =>
     law10uEvalRules_c1 7 (⟨some a_2, 2, 2⟩ : Sl) l h0u10 fun v_7 h0u11 =>
     new [Value.int .i64 v_7] h0u11 fun a_3 h0u12 =>
     law10uEvalRules_c1 6 (⟨some a_3, 1, 1⟩ : Sl) l h0u12 fun v_9 h0u13 =>
     new [Value.int .i64 0] h0u13 fun a_4 h0u14 =>
     law10uEvalRules_c1 6 (⟨some a_4, 1, 1⟩ : Sl) l h0u14 fun v_11 h0u15 =>
     new [Value.int .i64 1] h0u15 fun a_5 h0u16 =>
     law10uEvalRules_c1 6 (⟨some a_5, 1, 1⟩ : Sl) l h0u16 fun v_13 h0u17 =>
     new [Value.int .i64 v_11, Value.int .i64 v_13] h0u17 fun a_6 h0u18 =>
     law10uEvalRules_c1 8 (⟨some a_6, 2, 2⟩ : Sl) l h0u18 fun v_15 h0u19 =>
     new [Value.int .i64 v_9, Value.int .i64 v_15] h0u19 fun a_7 h0u20 =>
     law10uEvalRules_c1 12 (⟨some a_7, 2, 2⟩ : Sl) l h0u20 fun v_17 h0u21 =>
     new [Value.int .i64 0, Value.int .i64 1] h0u21 fun a_8 h0u22 =>
     law10uEvalRules_c1 10 (⟨some a_8, 2, 2⟩ : Sl) l h0u22 fun v_19 h0u23 =>
     new [Value.int .i64 0] h0u23 fun a_9 h0u24 =>
     law10uEvalRules_c1 6 (⟨some a_9, 1, 1⟩ : Sl) l h0u24 fun v_21 h0u25 =>
     new [Value.int .i64 v_21, Value.int .i64 1] h0u25 fun a_10 h0u26 =>
     law10uEvalRules_c1 8 (⟨some a_10, 2, 2⟩ : Sl) l h0u26 fun v_23 h0u27 =>
     new [Value.int .i64 v_19, Value.int .i64 v_23] h0u27 fun a_11 h0u28 =>
     law10uEvalRules_c1 12 (⟨some a_11, 2, 2⟩ : Sl) l h0u28 fun v_25 h0u29 =>
     new [Value.int .i64 0, Value.int .i64 1] h0u29 fun a_12 h0u30 =>
     law10uEvalRules_c1 9 (⟨some a_12, 2, 2⟩ : Sl) l h0u30 fun v_27 h0u31 =>
     new [Value.int .i64 0, Value.int .i64 1] h0u31 fun a_13 h0u32 =>
     law10uEvalRules_c1 13 (⟨some a_13, 2, 2⟩ : Sl) l h0u32 fun v_29 h0u33 =>
     new [Value.int .i64 v_27, Value.int .i64 v_29] h0u33 fun a_14 h0u34 =>
     law10uEvalRules_c1 12 (⟨some a_14, 2, 2⟩ : Sl) l h0u34 fun v_31 h0u35 =>
     new [Value.int .i64 2, Value.int .i64 3] h0u35 fun a_15 h0u36 =>
     law10uEvalRules_c1 13 (⟨some a_15, 2, 2⟩ : Sl) l h0u36 fun v_33 h0u37 =>
     new [Value.int .i64 2, Value.int .i64 3] h0u37 fun a_16 h0u38 =>
     law10uEvalRules_c1 12 (⟨some a_16, 2, 2⟩ : Sl) l h0u38 fun v_35 h0u39 =>
     new [Value.int .i64 v_35] h0u39 fun a_17 h0u40 =>
     law10uEvalRules_c1 6 (⟨some a_17, 1, 1⟩ : Sl) l h0u40 fun v_37 h0u41 =>
     new [Value.int .i64 v_33, Value.int .i64 v_37] h0u41 fun a_18 h0u42 =>
     law10uEvalRules_c1 12 (⟨some a_18, 2, 2⟩ : Sl) l h0u42 fun v_39 h0u43 =>
     new [Value.int .i64 2, Value.int .i64 3] h0u43 fun a_19 h0u44 =>
     law10uEvalRules_c1 14 (⟨some a_19, 2, 2⟩ : Sl) l h0u44 fun v_41 h0u45 =>
     new [Value.int .i64 2, Value.int .i64 3] h0u45 fun a_20 h0u46 =>
     law10uEvalRules_c1 17 (⟨some a_20, 2, 2⟩ : Sl) l h0u46 fun v_43 h0u47 =>
     new [Value.int .i64 v_43] h0u47 fun a_21 h0u48 =>
     law10uEvalRules_c1 6 (⟨some a_21, 1, 1⟩ : Sl) l h0u48 fun v_45 h0u49 =>
     new [Value.int .i64 v_41, Value.int .i64 v_45] h0u49 fun a_22 h0u50 =>
     law10uEvalRules_c1 12 (⟨some a_22, 2, 2⟩ : Sl) l h0u50 fun v_47 h0u51 =>
     new [Value.int .i64 2, Value.int .i64 3] h0u51 fun a_23 h0u52 =>
     law10uEvalRules_c1 16 (⟨some a_23, 2, 2⟩ : Sl) l h0u52 fun v_49 h0u53 =>
     new [Value.int .i64 3, Value.int .i64 2] h0u53 fun a_24 h0u54 =>
     law10uEvalRules_c1 14 (⟨some a_24, 2, 2⟩ : Sl) l h0u54 fun v_51 h0u55 =>
     new [Value.int .i64 v_49, Value.int .i64 v_51] h0u55 fun a_25 h0u56 =>
     law10uEvalRules_c1 12 (⟨some a_25, 2, 2⟩ : Sl) l h0u56 fun v_53 h0u57 =>
     new [Value.int .i64 2, Value.int .i64 3] h0u57 fun a_26 h0u58 =>
     law10uEvalRules_c1 18 (⟨some a_26, 2, 2⟩ : Sl) l h0u58 fun v_55 h0u59 =>
     new [Value.int .i64 v_55, Value.int .i64 3] h0u59 fun a_27 h0u60 =>
     law10uEvalRules_c1 19 (⟨some a_27, 2, 2⟩ : Sl) l h0u60 fun v_57 h0u61 =>
     new [Value.int .i64 v_57, Value.int .i64 2] h0u61 fun a_28 h0u62 =>
     law10uEvalRules_c1 12 (⟨some a_28, 2, 2⟩ : Sl) l h0u62 fun v_59 h0u63 =>
     new [Value.int .i64 0, Value.int .i64 2, Value.int .i64 3] h0u63 fun a_29 h0u64 =>
     law10uEvalRules_c1 11 (⟨some a_29, 3, 3⟩ : Sl) l h0u64 fun v_61 h0u65 =>
     new [Value.int .i64 0] h0u65 fun a_30 h0u66 =>
     law10uEvalRules_c1 6 (⟨some a_30, 1, 1⟩ : Sl) l h0u66 fun v_63 h0u67 =>
     new [Value.int .i64 v_63, Value.int .i64 3, Value.int .i64 2] h0u67 fun a_31 h0u68 =>
     law10uEvalRules_c1 11 (⟨some a_31, 3, 3⟩ : Sl) l h0u68 fun v_65 h0u69 =>
     new [Value.int .i64 v_61, Value.int .i64 v_65] h0u69 fun a_32 h0u70 =>
     law10uEvalRules_c1 12 (⟨some a_32, 2, 2⟩ : Sl) l h0u70 fun v_67 h0u71 =>
     new [Value.int .i64 v_17, Value.int .i64 v_25, Value.int .i64 v_31, Value.int .i64 v_39, Value.int .i64 v_47, Value.int .i64 v_53, Value.int .i64 v_59, Value.int .i64 v_67] h0u71 fun a_33 h0u72 =>
     Let ((⟨some a_33, 8, 8⟩ : Sl) : Sl) fun equal =>
     seq (fun (K0u1 : (Bool × Int) → Heap → Prop) =>
      Lift.load Sl.toV l h0u72 fun v_69 =>
      (
       nat_New 200 h0u72 fun v_70 h0u74 =>
       (cell? h0u74 l = some (Sl.toV v_69)) ∧
       (
        new [Value.bool p, Value.bool q] h0u74 fun a_34 h0u75 =>
        (cell? h0u75 l = some (Sl.toV v_69)) ∧
        new [Value.bool x0.1, Sl.toV x0.2.1, Sl.toV x0.2.2, Value.bool y.1, Sl.toV y.2.1, Sl.toV y.2.2] h0u75 fun a_35 h0u76 =>
        (cell? h0u76 l = some (Sl.toV v_69)) ∧
        eval_True v_70 (Sl.nil, Sl.nil, v_69, equal, false, false) (⟨some a_34, 2, 2⟩ : Sl) (⟨some a_35, 2, 2⟩ : Sl) h0u76 fun v_73 h0u77 =>
        K0u1 (v_73.1, v_73.2) h0u77
       ) ∧ (
        new [Value.bool x0.1, Sl.toV x0.2.1, Sl.toV x0.2.2, Value.bool y.1, Sl.toV y.2.1, Sl.toV y.2.2] h0u74 fun a_36 h0u78 =>
        (cell? h0u78 l = some (Sl.toV v_69)) ∧
        new [Value.bool p, Value.bool q] h0u78 fun a_37 h0u79 =>
        (cell? h0u79 l = some (Sl.toV v_69)) ∧
        eval_True v_70 (Sl.nil, Sl.nil, v_69, equal, false, false) (⟨some a_37, 2, 2⟩ : Sl) (⟨some a_36, 2, 2⟩ : Sl) h0u79 fun v_76 h0u80 =>
        K0u1 (v_76.1, v_76.2) h0u80
       )
      ) ∧ (
       new [Value.bool p, Value.bool q] h0u72 fun a_38 h0u81 =>
       (cell? h0u81 l = some (Sl.toV v_69)) ∧
       (
        nat_New 200 h0u81 fun v_78 h0u82 =>
        (cell? h0u82 l = some (Sl.toV v_69)) ∧
        new [Value.bool x0.1, Sl.toV x0.2.1, Sl.toV x0.2.2, Value.bool y.1, Sl.toV y.2.1, Sl.toV y.2.2] h0u82 fun a_39 h0u83 =>
        (cell? h0u83 l = some (Sl.toV v_69)) ∧
        eval_True v_78 (Sl.nil, Sl.nil, v_69, equal, false, false) (⟨some a_38, 2, 2⟩ : Sl) (⟨some a_39, 2, 2⟩ : Sl) h0u83 fun v_80 h0u84 =>
        K0u1 (v_80.1, v_80.2) h0u84
       ) ∧ (
        new [Value.bool x0.1, Sl.toV x0.2.1, Sl.toV x0.2.2, Value.bool y.1, Sl.toV y.2.1, Sl.toV y.2.2] h0u81 fun a_40 h0u85 =>
        (cell? h0u85 l = some (Sl.toV v_69)) ∧
        nat_New 200 h0u85 fun v_82 h0u86 =>
        (cell? h0u86 l = some (Sl.toV v_69)) ∧
        eval_True v_82 (Sl.nil, Sl.nil, v_69, equal, false, false) (⟨some a_38, 2, 2⟩ : Sl) (⟨some a_40, 2, 2⟩ : Sl) h0u86 fun v_83 h0u87 =>
        K0u1 (v_83.1, v_83.2) h0u87
       )
      ) ∧ (
       new [Value.bool x0.1, Sl.toV x0.2.1, Sl.toV x0.2.2, Value.bool y.1, Sl.toV y.2.1, Sl.toV y.2.2] h0u72 fun a_41 h0u88 =>
       (cell? h0u88 l = some (Sl.toV v_69)) ∧
       (
        nat_New 200 h0u88 fun v_85 h0u89 =>
        (cell? h0u89 l = some (Sl.toV v_69)) ∧
        new [Value.bool p, Value.bool q] h0u89 fun a_42 h0u90 =>
        (cell? h0u90 l = some (Sl.toV v_69)) ∧
        eval_True v_85 (Sl.nil, Sl.nil, v_69, equal, false, false) (⟨some a_42, 2, 2⟩ : Sl) (⟨some a_41, 2, 2⟩ : Sl) h0u90 fun v_87 h0u91 =>
        K0u1 (v_87.1, v_87.2) h0u91
       ) ∧ (
        new [Value.bool p, Value.bool q] h0u88 fun a_43 h0u92 =>
        (cell? h0u92 l = some (Sl.toV v_69)) ∧
        nat_New 200 h0u92 fun v_89 h0u93 =>
        (cell? h0u93 l = some (Sl.toV v_69)) ∧
        eval_True v_89 (Sl.nil, Sl.nil, v_69, equal, false, false) (⟨some a_43, 2, 2⟩ : Sl) (⟨some a_41, 2, 2⟩ : Sl) h0u93 fun v_90 h0u94 =>
        K0u1 (v_90.1, v_90.2) h0u94
       )
      )
     ) (fun t0u1 h0u73 =>
      seq (fun (K0u2 : Bool → Heap → Prop) =>
       iteB t0u1.1 (
        K0u2 (t0u1.2 == 0) h0u73
       ) (
        K0u2 false h0u73
       )
      ) (fun t0u2 h0u95 =>
       Q t0u2 h0u95
      )
     )
    )
   )
  )
end Go.Sh

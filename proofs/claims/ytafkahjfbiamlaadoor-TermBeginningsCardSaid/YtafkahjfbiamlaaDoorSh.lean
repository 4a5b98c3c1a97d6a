/-
  The functions, as they are seen: printed by lift.py.
-/
import Derived.Test.YtafkahjfbiamlaaDoorFwM
set_option linter.unusedVariables false
set_option linter.unusedSimpArgs false
namespace Go.Sh
open Go Go.Lift

def C_bool_sl_sl (x : Bool × Sl × Sl) : List Value := [Value.bool x.1, Sl.toV x.2.1, Sl.toV x.2.2]
def C_i64ui64ui64ui64 (x : Int × Int × Int × Int) : List Value := [Value.int .i64 x.1, Value.int .i64 x.2.1, Value.int .i64 x.2.2.1, Value.int .i64 x.2.2.2]
def C_i64ui64usl_bool_sl_sl (x : Int × Int × Sl × Bool × Sl × Sl) : List Value := [Value.int .i64 x.1, Value.int .i64 x.2.1, Sl.toV x.2.2.1, Value.bool x.2.2.2.1, Sl.toV x.2.2.2.2.1, Sl.toV x.2.2.2.2.2]
/-- Where a variable of a package lies. -/
abbrev g_math_bits_deBruijn32tab : Nat := 0

def term_New (bools : Int) (reals : Int) (h : Heap) (Q : ((Option Addr)) → Heap → Prop) : Prop :=
  newM h fun v h0 =>
  setM .i64 (Value.int .i64) v 1 (if 0 > bools then 0 else bools) h0 fun h0u1 =>
  setM .i64 (Value.int .i64) v 2 (if 0 > reals then 0 else reals) h0u1 fun h0u2 =>
  new [Value.map v, Sl.toV Sl.nil, Sl.toV Sl.nil, Sl.toV Sl.nil] h0u2 fun a h0u3 =>
  Q (some a) h0u3

def term_shapes (op : Int) (h : Heap) (Q : ((Int × Int × Int × Int) × Bool) → Heap → Prop) : Prop :=
  mem h fun h0 =>
  seq (fun (K0 : Bool → Heap → Prop) =>
   iteB (op == 1) (
    K0 true h0
   ) (
    iteB (op == 2) (
     K0 true h0
    ) (
     K0 (op == 3) h0
    )
   )
  ) (fun t0 h0u1 =>
   iteB t0 (
    Q ((0, 0, 0, 1), true) h0u1
   ) (
    seq (fun (K0u1 : Bool → Heap → Prop) =>
     iteB (op == 4) (
      K0u1 true h0u1
     ) (
      K0u1 (op == 5) h0u1
     )
    ) (fun t0u1 h0u2 =>
     iteB t0u1 (
      Q ((0, 0, 0, 2), true) h0u2
     ) (
      iteB (op == 6) (
       Q ((1, 1, 1, 1), true) h0u2
      ) (
       seq (fun (K0u2 : Bool → Heap → Prop) =>
        iteB (decide (op ≥ 7)) (
         K0u2 (decide (op ≤ 10)) h0u2
        ) (
         K0u2 false h0u2
        )
       ) (fun t0u2 h0u3 =>
        iteB t0u2 (
         Q ((2, 1073741824, 1, 1), true) h0u3
        ) (
         iteB (op == 11) (
          Q ((3, 3, 0, 0), true) h0u3
         ) (
          seq (fun (K0u3 : Bool → Heap → Prop) =>
           iteB (op == 12) (
            K0u3 true h0u3
           ) (
            K0u3 (op == 13) h0u3
           )
          ) (fun t0u3 h0u4 =>
           iteB t0u3 (
            Q ((2, 1073741824, 0, 1), true) h0u4
           ) (
            seq (fun (K0u4 : Bool → Heap → Prop) =>
             iteB (decide (op ≥ 14)) (
              K0u4 (decide (op ≤ 17)) h0u4
             ) (
              K0u4 false h0u4
             )
            ) (fun t0u4 h0u5 =>
             iteB t0u4 (
              Q ((2, 1073741824, 2, 1), true) h0u5
             ) (
              iteB (op == 19) (
               Q ((1, 1073741824, 2, 2), true) h0u5
              ) (
               seq (fun (K0u5 : Bool → Heap → Prop) =>
                iteB (op == 18) (
                 K0u5 true h0u5
                ) (
                 iteB (op == 20) (
                  K0u5 true h0u5
                 ) (
                  K0u5 (op == 21) h0u5
                 )
                )
               ) (fun t0u5 h0u6 =>
                iteB t0u5 (
                 Q ((2, 1073741824, 2, 2), true) h0u6
                ) (
                 Q ((0, 0, 0, 0), false) h0u6
                )
               )
              )
             )
            )
           )
          )
         )
        )
       )
      )
     )
    )
   )
  )

def term_Terms_there (t0 : (Option Addr)) (at0 : Int) (h : Heap) (Q : Bool → Heap → Prop) : Prop :=
  seq (fun (K0 : Bool → Heap → Prop) =>
   iteB (decide (at0 ≥ 0)) (
    nilChk t0 fun a =>
    Lift.load Sl.toV (a.add 1) h fun v =>
    K0 (decide (at0 < ((v.len : Nat) : Int))) h
   ) (
    K0 false h
   )
  ) (fun t0u1 h0 =>
   Q t0u1 h0
  )

def term_Terms_Add_c1 (k : Int) (c0 : Addr) (h : Heap) (Q : Bool → Heap → Prop) : Prop :=
  Lift.load Value.pointer c0 h fun v =>
  term_Terms_there v k h fun v_1 h0 =>
  Q (!v_1) h0

def nat_trim (x0 : Sl) (h : Heap) (Q : Sl → Heap → Prop) : Prop :=
  loop (fun (s0 : Sl) h0 (K0 : Sl → Heap → Prop) =>
   seq (fun (K0u1 : Bool → Heap → Prop) =>
    iteB (decide (((s0.len : Nat) : Int) > 0)) (
     idxS s0 (IntKind.wrap .i64 (((s0.len : Nat) : Int) - 1)) 1 fun a =>
     Lift.load (Value.int .u32) a h0 fun v =>
     K0u1 (v == 0) h0
    ) (
     K0u1 false h0
    )
   ) (fun t0 h0u1 =>
    iteB t0 (
     sliceOf s0 none (some (IntKind.wrap .i64 (((s0.len : Nat) : Int) - 1))) none 1 fun v_1 =>
     K0 v_1 h0u1
    ) (
     Q s0 h0u1
    )
   )
  ) x0 h

def nat_Right (x0 : Sl) (h : Heap) (Q : Bool → Heap → Prop) : Prop :=
  nat_trim x0 h fun v h0 =>
  Q (((v.len : Nat) : Int) == ((x0.len : Nat) : Int)) h0

def ratio_one (h : Heap) (Q : Sl → Heap → Prop) : Prop :=
  new [Value.int .u32 1] h fun a h0 =>
  Q (⟨some a, 1, 1⟩ : Sl) h0

def slices_Equal_api_Nat_uint32 (s1 : Sl) (s2 : Sl) (h : Heap) (Q : Bool → Heap → Prop) : Prop :=
  iteB (((s1.len : Nat) : Int) != ((s2.len : Nat) : Int)) (
   Q false h
  ) (
   loop (fun (s0 : Int) h0 (K0 : Int → Heap → Prop) =>
    iteB (decide (s0 < ((s1.len : Nat) : Int))) (
     idxS s1 s0 1 fun a =>
     Lift.load (Value.int .u32) a h0 fun v =>
     idxS s2 s0 1 fun a_1 =>
     Lift.load (Value.int .u32) a_1 h0 fun v_1 =>
     iteB (v != v_1) (
      Q false h0
     ) (
      K0 (IntKind.wrap .i64 (s0 + 1)) h0
     )
    ) (
     Q true h0
    )
   ) 0 h
  )

def ratio_isOne (x0 : Sl) (h : Heap) (Q : Bool → Heap → Prop) : Prop :=
  ratio_one h fun v h0 =>
  slices_Equal_api_Nat_uint32 x0 v h0 fun v_1 h0u1 =>
  Q v_1 h0u1

def nat_New (limbs : Int) (h : Heap) (Q : ((Option Addr)) → Heap → Prop) : Prop :=
  new [Value.int .i64 (if 1 > limbs then 1 else limbs), Value.bool false] h fun a h0 =>
  Q (some a) h0

def ratio_free (h : Heap) (Q : ((Option Addr)) → Heap → Prop) : Prop :=
  nat_New 16777216 h fun v h0 =>
  Q v h0

def ratio_den (x0 : Bool × Sl × Sl) (h : Heap) (Q : Sl → Heap → Prop) : Prop :=
  mem h fun h0 =>
  iteB (((x0.2.2.len : Nat) : Int) == 0) (
   ratio_one h0 fun v h0u1 =>
   Q v h0u1
  ) (
   Q x0.2.2 h0
  )

def nat_small (x0 : Sl) (h : Heap) (Q : (Int × Bool) → Heap → Prop) : Prop :=
  nat_trim x0 h fun v h0 =>
  Let (IntKind.wrap .i64 (((v.len : Nat) : Int) - 1) : Int) fun i =>
  loop (fun (s0 : Int × Int) h0u1 (K0 : (Int × Int) → Heap → Prop) =>
   iteB (decide (s0.2 ≥ 0)) (
    idxS v s0.2 1 fun a =>
    Lift.load (Value.int .u32) a h0u1 fun v_1 =>
    Let (IntKind.wrap .u64 (((BitVec.ofInt (IntKind.bits .u64) (IntKind.wrap .u64 (s0.1 * 2 ^ (min (Int.toNat 32) (IntKind.bits .u64)))) ||| BitVec.ofInt (IntKind.bits .u64) (IntKind.wrap .u64 v_1)).toNat : Int)) : Int) fun n =>
    Let (IntKind.wrap .i64 (s0.2 - 1) : Int) fun i_1 =>
    K0 (n, i_1) h0u1
   ) (
    Let (decide (((v.len : Nat) : Int) ≤ 2) : Bool) fun ok =>
    Q (s0.1, ok) h0u1
   )
  ) (0, i) h0

def nat_Of (n : Int) (h : Heap) (Q : Sl → Heap → Prop) : Prop :=
  new [Value.int .u32 (IntKind.wrap .u32 n), Value.int .u32 (IntKind.wrap .u32 (Int.fdiv n (2 ^ (min (Int.toNat 32) (IntKind.bits .u64)))))] h fun a h0 =>
  nat_trim (⟨some a, 2, 2⟩ : Sl) h0 fun v_1 h0u1 =>
  Q v_1 h0u1

def math_bits_TrailingZeros32 (x0 : Int) (h : Heap) (Q : Int → Heap → Prop) : Prop :=
  iteB (x0 == 0) (
   Q 32 h
  ) (
   ((0 : Int) ≤ ((Int.fdiv (IntKind.wrap .u32 ((IntKind.wrap .u32 (((BitVec.ofInt (IntKind.bits .u32) x0 &&& BitVec.ofInt (IntKind.bits .u32) (IntKind.wrap .u32 (0 - x0))).toNat : Int))) * 125613361)) (2 ^ (min (Int.toNat 27) (IntKind.bits .u32)))) : Int) ∧ ((Int.fdiv (IntKind.wrap .u32 ((IntKind.wrap .u32 (((BitVec.ofInt (IntKind.bits .u32) x0 &&& BitVec.ofInt (IntKind.bits .u32) (IntKind.wrap .u32 (0 - x0))).toNat : Int))) * 125613361)) (2 ^ (min (Int.toNat 27) (IntKind.bits .u32)))) : Int) < 32) ∧
   Lift.load (Value.int .u8) ((⟨g_math_bits_deBruijn32tab, 0, none⟩ : Addr).add (Int.toNat (Int.fdiv (IntKind.wrap .u32 ((IntKind.wrap .u32 (((BitVec.ofInt (IntKind.bits .u32) x0 &&& BitVec.ofInt (IntKind.bits .u32) (IntKind.wrap .u32 (0 - x0))).toNat : Int))) * 125613361)) (2 ^ (min (Int.toNat 27) (IntKind.bits .u32)))) * 1)) h fun v =>
   Q (IntKind.wrap .i64 v) h
  )

def slices_Clone_api_Nat_uint32 (s0 : Sl) (h : Heap) (Q : Sl → Heap → Prop) : Prop :=
  iteB s0.a.isNone (
   Q Sl.nil h
  ) (
   new [] h fun a h0 =>
   appendS 1 4 (⟨some a, 0, 0⟩ : Sl) s0 h0 fun v_1 h0u1 =>
   Q v_1 h0u1
  )

def nat_halve (x0 : Sl) (h : Heap) (Q : (Sl × Int) → Heap → Prop) : Prop :=
  loop (fun (s0 : Int) h0 (K0 : Int → Heap → Prop) =>
   idxS x0 (IntKind.wrap .i64 (Int.tdiv s0 32)) 1 fun a =>
   Lift.load (Value.int .u32) a h0 fun v =>
   iteB (v == 0) (
    Let (IntKind.wrap .i64 (s0 + 32) : Int) fun k =>
    K0 k h0
   ) (
    idxS x0 (IntKind.wrap .i64 (Int.tdiv s0 32)) 1 fun a_1 =>
    Lift.load (Value.int .u32) a_1 h0 fun v_1 =>
    math_bits_TrailingZeros32 v_1 h0 fun v_2 h0u1 =>
    Let (IntKind.wrap .i64 (s0 + v_2) : Int) fun k_1 =>
    sliceOf x0 (some (IntKind.wrap .i64 (Int.tdiv k_1 32))) none none 1 fun v_3 =>
    slices_Clone_api_Nat_uint32 v_3 h0u1 fun v_4 h0u2 =>
    seq (fun (K0u1 : Unit → Heap → Prop) =>
     Let (Int.tmod k_1 32 : Int) fun s0u1 =>
     iteB (decide (s0u1 > 0)) (
      loop (fun (s0u2 : Int) h0u4 (K0u2 : Int → Heap → Prop) =>
       iteB (decide (s0u2 < ((v_4.len : Nat) : Int))) (
        seq (fun (K0u3 : Unit → Heap → Prop) =>
         idxS v_4 s0u2 1 fun a_2 =>
         Lift.load (Value.int .u32) a_2 h0u4 fun v_5 =>
         (0 ≤ s0u1) ∧
         idxS v_4 s0u2 1 fun a_3 =>
         Lift.store a_3 (Value.int .u32 (Int.fdiv v_5 (2 ^ (min (Int.toNat s0u1) (IntKind.bits .u32))))) h0u4 fun h0u6 =>
         iteB (decide ((IntKind.wrap .i64 (s0u2 + 1)) < ((v_4.len : Nat) : Int))) (
          idxS v_4 s0u2 1 fun a_4 =>
          Lift.load (Value.int .u32) a_4 h0u6 fun v_6 =>
          idxS v_4 (IntKind.wrap .i64 (s0u2 + 1)) 1 fun a_5 =>
          Lift.load (Value.int .u32) a_5 h0u6 fun v_7 =>
          (0 ≤ (IntKind.wrap .i64 (32 - s0u1))) ∧
          idxS v_4 s0u2 1 fun a_6 =>
          Lift.store a_6 (Value.int .u32 (IntKind.wrap .u32 (((BitVec.ofInt (IntKind.bits .u32) v_6 ||| BitVec.ofInt (IntKind.bits .u32) (IntKind.wrap .u32 (v_7 * 2 ^ (min (Int.toNat (IntKind.wrap .i64 (32 - s0u1))) (IntKind.bits .u32))))).toNat : Int)))) h0u6 fun h0u7 =>
          K0u3 () h0u7
         ) (
          K0u3 () h0u6
         )
        ) (fun t0u1 h0u5 =>
         K0u2 (IntKind.wrap .i64 (s0u2 + 1)) h0u5
        )
       ) (
        K0u1 () h0u4
       )
      ) 0 h0u2
     ) (
      K0u1 () h0u2
     )
    ) (fun t0 h0u3 =>
     nat_trim v_4 h0u3 fun v_8 h0u8 =>
     Q (v_8, k_1) h0u8
    )
   )
  ) 0 h

def nat_sign (n : Int) (h : Heap) (Q : Int → Heap → Prop) : Prop :=
  Q (if (-1) > (if 1 < n then 1 else n) then (-1) else (if 1 < n then 1 else n)) h

def nat_Cmp (x0 : Sl) (y : Sl) (h : Heap) (Q : Int → Heap → Prop) : Prop :=
  nat_trim x0 h fun v h0 =>
  nat_trim y h0 fun v_1 h0u1 =>
  iteB (((v.len : Nat) : Int) != ((v_1.len : Nat) : Int)) (
   nat_sign (IntKind.wrap .i64 (((v.len : Nat) : Int) - ((v_1.len : Nat) : Int))) h0u1 fun v_2 h0u2 =>
   Q v_2 h0u2
  ) (
   Let (IntKind.wrap .i64 (((v.len : Nat) : Int) - 1) : Int) fun i =>
   loop (fun (s0 : Int) h0u3 (K0 : Int → Heap → Prop) =>
    iteB (decide (s0 ≥ 0)) (
     idxS v s0 1 fun a =>
     Lift.load (Value.int .u32) a h0u3 fun v_3 =>
     idxS v_1 s0 1 fun a_1 =>
     Lift.load (Value.int .u32) a_1 h0u3 fun v_4 =>
     iteB (v_3 != v_4) (
      idxS v s0 1 fun a_2 =>
      Lift.load (Value.int .u32) a_2 h0u3 fun v_5 =>
      idxS v_1 s0 1 fun a_3 =>
      Lift.load (Value.int .u32) a_3 h0u3 fun v_6 =>
      nat_sign (IntKind.wrap .i64 ((IntKind.wrap .i64 v_5) - (IntKind.wrap .i64 v_6))) h0u3 fun v_7 h0u4 =>
      Q v_7 h0u4
     ) (
      Let (IntKind.wrap .i64 (s0 - 1) : Int) fun i_1 =>
      K0 i_1 h0u3
     )
    ) (
     Q 0 h0u3
    )
   ) i h0u1
  )

def nat_minus (x0 : Sl) (y : Sl) (h : Heap) (Q : Sl → Heap → Prop) : Prop :=
  loop (fun (s0 : Sl × Int × Int) h0 (K0 : (Sl × Int × Int) → Heap → Prop) =>
   iteB (decide (s0.2.2 < ((x0.len : Nat) : Int))) (
    idxS x0 s0.2.2 1 fun a =>
    Lift.load (Value.int .u32) a h0 fun v =>
    Let (IntKind.wrap .u64 ((IntKind.wrap .u64 v) - s0.2.1) : Int) fun d =>
    seq (fun (K0u1 : Int → Heap → Prop) =>
     iteB (decide (s0.2.2 < ((y.len : Nat) : Int))) (
      idxS y s0.2.2 1 fun a_1 =>
      Lift.load (Value.int .u32) a_1 h0 fun v_1 =>
      Let (IntKind.wrap .u64 (d - (IntKind.wrap .u64 v_1)) : Int) fun d_1 =>
      K0u1 d_1 h0
     ) (
      K0u1 d h0
     )
    ) (fun t0 h0u1 =>
     new [Value.int .u32 (IntKind.wrap .u32 t0)] h0u1 fun a_2 h0u2 =>
     appendS 1 4 s0.1 (⟨some a_2, 1, 1⟩ : Sl) h0u2 fun v_3 h0u3 =>
     Let (Int.fdiv t0 (2 ^ (min (Int.toNat 63) (IntKind.bits .u64))) : Int) fun borrow =>
     K0 (v_3, borrow, IntKind.wrap .i64 (s0.2.2 + 1)) h0u3
    )
   ) (
    nat_trim s0.1 h0 fun v_4 h0u4 =>
    Q v_4 h0u4
   )
  ) (Sl.nil, 0, 0) h

def nat_times (x0 : Sl) (y : Sl) (h : Heap) (Q : Sl → Heap → Prop) : Prop :=
  Let (IntKind.wrap .i64 (((x0.len : Nat) : Int) + ((y.len : Nat) : Int)) : Int) fun t15 =>
  mkS [Value.int .u32 0] 4 t15 t15 h fun v h0 =>
  loop (fun (s0 : Int) h0u1 (K0 : Int → Heap → Prop) =>
   iteB (decide (s0 < ((x0.len : Nat) : Int))) (
    idxS x0 s0 1 fun a =>
    Lift.load (Value.int .u32) a h0u1 fun v_1 =>
    loop (fun (s0u1 : Int × Int) h0u2 (K0u1 : (Int × Int) → Heap → Prop) =>
     iteB (decide (s0u1.2 < ((y.len : Nat) : Int))) (
      idxS y s0u1.2 1 fun a_1 =>
      Lift.load (Value.int .u32) a_1 h0u2 fun v_2 =>
      idxS v (IntKind.wrap .i64 (s0 + s0u1.2)) 1 fun a_2 =>
      Lift.load (Value.int .u32) a_2 h0u2 fun v_3 =>
      Let (IntKind.wrap .u64 (s0u1.1 + (IntKind.wrap .u64 ((IntKind.wrap .u64 ((IntKind.wrap .u64 v_1) * (IntKind.wrap .u64 v_2))) + (IntKind.wrap .u64 v_3)))) : Int) fun carry =>
      idxS v (IntKind.wrap .i64 (s0 + s0u1.2)) 1 fun a_3 =>
      Lift.store a_3 (Value.int .u32 (IntKind.wrap .u32 carry)) h0u2 fun h0u3 =>
      Let (Int.fdiv carry (2 ^ (min (Int.toNat 32) (IntKind.bits .u64))) : Int) fun carry_1 =>
      K0u1 (carry_1, IntKind.wrap .i64 (s0u1.2 + 1)) h0u3
     ) (
      idxS v (IntKind.wrap .i64 (s0 + ((y.len : Nat) : Int))) 1 fun a_4 =>
      Lift.store a_4 (Value.int .u32 (IntKind.wrap .u32 s0u1.1)) h0u2 fun h0u4 =>
      K0 (IntKind.wrap .i64 (s0 + 1)) h0u4
     )
    ) (0, 0) h0u1
   ) (
    Q v h0u1
   )
  ) 0 h0

def nat_double (x0 : Sl) (k : Int) (h : Heap) (Q : Sl → Heap → Prop) : Prop :=
  Let (IntKind.wrap .i64 ((IntKind.wrap .i64 (Int.tdiv k 32)) + 1) : Int) fun t8 =>
  mkS [Value.int .u32 0] 4 t8 t8 h fun v h0 =>
  (0 ≤ (Int.tmod k 32)) ∧
  idxS v (IntKind.wrap .i64 (Int.tdiv k 32)) 1 fun a =>
  Lift.store a (Value.int .u32 (IntKind.wrap .u32 (1 * 2 ^ (min (Int.toNat (Int.tmod k 32)) (IntKind.bits .u32))))) h0 fun h0u1 =>
  nat_times x0 v h0u1 fun v_1 h0u2 =>
  nat_trim v_1 h0u2 fun v_2 h0u3 =>
  Q v_2 h0u3

def nat_common (x0 : Sl) (y : Sl) (h : Heap) (Q : Sl → Heap → Prop) : Prop :=
  nat_trim x0 h fun v h0 =>
  nat_trim y h0 fun v_1 h0u1 =>
  iteB (((v.len : Nat) : Int) == 0) (
   Q v_1 h0u1
  ) (
   iteB (((v_1.len : Nat) : Int) == 0) (
    Q v h0u1
   ) (
    seq (fun (K0 : Unit → Heap → Prop) =>
     nat_small v h0u1 fun v_2 h0u3 =>
     iteB v_2.2 (
      nat_small v_1 h0u3 fun v_3 h0u4 =>
      iteB v_3.2 (
       loop (fun (s0 : Int × Int) h0u5 (K0u1 : (Int × Int) → Heap → Prop) =>
        iteB (s0.2 != 0) (
         (s0.2 ≠ 0) ∧
         Let (Int.tmod s0.1 s0.2 : Int) fun m0 =>
         K0u1 (s0.2, m0) h0u5
        ) (
         nat_Of s0.1 h0u5 fun v_4 h0u6 =>
         Q v_4 h0u6
        )
       ) (v_2.1, v_3.1) h0u4
      ) (
       K0 () h0u4
      )
     ) (
      K0 () h0u3
     )
    ) (fun t0 h0u2 =>
     nat_halve v h0u2 fun v_5 h0u7 =>
     nat_halve v_1 h0u7 fun v_6 h0u8 =>
     loop (fun (s0u1 : Sl × Sl) h0u9 (K0u2 : (Sl × Sl) → Heap → Prop) =>
      nat_Cmp s0u1.1 s0u1.2 h0u9 fun v_7 h0u10 =>
      iteB (v_7 != 0) (
       seq (fun (K0u3 : (Sl × Sl) → Heap → Prop) =>
        nat_Cmp s0u1.1 s0u1.2 h0u10 fun v_8 h0u12 =>
        iteB (decide (v_8 < 0)) (
         K0u3 (s0u1.2, s0u1.1) h0u12
        ) (
         K0u3 (s0u1.1, s0u1.2) h0u12
        )
       ) (fun t0u1 h0u11 =>
        nat_minus t0u1.1 t0u1.2 h0u11 fun v_9 h0u13 =>
        nat_halve v_9 h0u13 fun v_10 h0u14 =>
        K0u2 (v_10.1, t0u1.2) h0u14
       )
      ) (
       nat_double s0u1.1 (if v_6.2 < v_5.2 then v_6.2 else v_5.2) h0u10 fun v_11 h0u15 =>
       Q v_11 h0u15
      )
     ) (v_5.1, v_6.1) h0u8
    )
   )
  )

def nat_Bench_fit (b : (Option Addr)) (x0 : Sl) (h : Heap) (Q : Sl → Heap → Prop) : Prop :=
  nat_trim x0 h fun v h0 =>
  seq (fun (K0 : Unit → Heap → Prop) =>
   nilChk b fun a =>
   Lift.load Value.bool (a.add 1) h0 fun v_1 =>
   iteB v_1 (
    nilChk b fun a_1 =>
    Lift.store (a_1.add 1) (Value.bool true) h0 fun h0u2 =>
    K0 () h0u2
   ) (
    nilChk b fun a_2 =>
    Lift.load (Value.int .i64) (a_2.add 0) h0 fun v_2 =>
    nilChk b fun a_3 =>
    Lift.store (a_3.add 1) (Value.bool (decide (((v.len : Nat) : Int) > v_2))) h0 fun h0u3 =>
    K0 () h0u3
   )
  ) (fun t0 h0u1 =>
   nilChk b fun a_4 =>
   Lift.load Value.bool (a_4.add 1) h0u1 fun v_3 =>
   iteB v_3 (
    Q Sl.nil h0u1
   ) (
    slices_Clone_api_Nat_uint32 v h0u1 fun v_4 h0u4 =>
    Q v_4 h0u4
   )
  )

def nat_Bench_Gcd (b : (Option Addr)) (x0 : Sl) (y : Sl) (h : Heap) (Q : Sl → Heap → Prop) : Prop :=
  nat_common x0 y h fun v h0 =>
  nat_Bench_fit b v h0 fun v_1 h0u1 =>
  Q v_1 h0u1

def ratio_Right (x0 : Bool × Sl × Sl) (h : Heap) (Q : Bool → Heap → Prop) : Prop :=
  mem h fun h0 =>
  seq (fun (K0 : Bool → Heap → Prop) =>
   nat_Right x0.2.1 h0 fun v h0u2 =>
   iteB (!v) (
    K0 true h0u2
   ) (
    nat_Right x0.2.2 h0u2 fun v_1 h0u3 =>
    iteB (!v_1) (
     K0 true h0u3
    ) (
     ratio_isOne x0.2.2 h0u3 fun v_2 h0u4 =>
     K0 v_2 h0u4
    )
   )
  ) (fun t0 h0u1 =>
   iteB t0 (
    Q false h0u1
   ) (
    iteB (((x0.2.1.len : Nat) : Int) == 0) (
     seq (fun (K0u1 : Bool → Heap → Prop) =>
      iteB (!x0.1) (
       K0u1 (((x0.2.2.len : Nat) : Int) == 0) h0u1
      ) (
       K0u1 false h0u1
      )
     ) (fun t0u1 h0u5 =>
      Q t0u1 h0u5
     )
    ) (
     ratio_free h0u1 fun v_3 h0u6 =>
     ratio_den (x0.1, x0.2.1, x0.2.2) h0u6 fun v_4 h0u7 =>
     nat_Bench_Gcd v_3 x0.2.1 v_4 h0u7 fun v_5 h0u8 =>
     ratio_isOne v_5 h0u8 fun v_6 h0u9 =>
     Q v_6 h0u9
    )
   )
  )

def ratio_Sign (x0 : Bool × Sl × Sl) (h : Heap) (Q : Int → Heap → Prop) : Prop :=
  mem h fun h0 =>
  iteB (((x0.2.1.len : Nat) : Int) == 0) (
   Q 0 h0
  ) (
   iteB x0.1 (
    Q (-1) h0
   ) (
    Q 1 h0
   )
  )

def term_Terms_leaf (t0 : (Option Addr)) (n : Int × Int × Sl × Bool × Sl × Sl) (h : Heap) (Q : Bool → Heap → Prop) : Prop :=
  mem h fun h0 =>
  newM h0 fun v h0u1 =>
  setM .i64 (Value.int .i64) v 3 1 h0u1 fun h0u2 =>
  setM .i64 (Value.int .i64) v 4 2 h0u2 fun h0u3 =>
  seq (fun (K0 : Unit → Heap → Prop) =>
   lookM .i64 (Value.int .i64) 0 v n.1 h0u3 fun v_1 =>
   iteB v_1.2 (
    seq (fun (K0u1 : Bool → Heap → Prop) =>
     iteB (decide (n.2.1 < 0)) (
      K0u1 true h0u3
     ) (
      nilChk t0 fun a =>
      Lift.load Value.map (a.add 0) h0u3 fun v_2 =>
      lookM .i64 (Value.int .i64) 0 v_2 v_1.1 h0u3 fun v_3 =>
      K0u1 (decide (n.2.1 ≥ v_3.1)) h0u3
     )
    ) (fun t0u2 h0u5 =>
     iteB t0u2 (
      Q false h0u5
     ) (
      K0 () h0u5
     )
    )
   ) (
    iteB (n.2.1 != 0) (
     Q false h0u3
    ) (
     K0 () h0u3
    )
   )
  ) (fun t0u1 h0u4 =>
   iteB (n.1 == 5) (
    ratio_Right (n.2.2.2.1, n.2.2.2.2.1, n.2.2.2.2.2) h0u4 fun v_4 h0u6 =>
    Q v_4 h0u6
   ) (
    seq (fun (K0u2 : Bool → Heap → Prop) =>
     ratio_Sign (n.2.2.2.1, n.2.2.2.2.1, n.2.2.2.2.2) h0u4 fun v_5 h0u8 =>
     iteB (v_5 == 0) (
      iteB (((n.2.2.2.2.2.len : Nat) : Int) == 0) (
       K0u2 (!n.2.2.2.1) h0u8
      ) (
       K0u2 false h0u8
      )
     ) (
      K0u2 false h0u8
     )
    ) (fun t0u3 h0u7 =>
     Q t0u3 h0u7
    )
   )
  )

def term_Terms_sorted (t0 : (Option Addr)) (n : Int × Int × Sl × Bool × Sl × Sl) (s0 : Int × Int × Int × Int) (h : Heap) (Q : Int → Heap → Prop) : Prop :=
  mem h fun h0 =>
  seq (fun (K0 : (Sl × Int × Int × Int × Int) → Heap → Prop) =>
   iteB (n.1 == 11) (
    nilChk t0 fun a =>
    Lift.load Sl.toV (a.add 2) h0 fun v =>
    idxS n.2.2.1 0 1 fun a_1 =>
    Lift.load (Value.int .i64) a_1 h0 fun v_1 =>
    idxS v v_1 1 fun a_2 =>
    Lift.load (Value.int .i64) a_2 h0 fun v_2 =>
    iteB (v_2 != 1) (
     Q 0 h0
    ) (
     sliceOf n.2.2.1 (some 1) none none 1 fun v_3 =>
     nilChk t0 fun a_3 =>
     Lift.load Sl.toV (a_3.add 2) h0 fun v_4 =>
     idxS v_3 0 1 fun a_4 =>
     Lift.load (Value.int .i64) a_4 h0 fun v_5 =>
     idxS v_4 v_5 1 fun a_5 =>
     Lift.load (Value.int .i64) a_5 h0 fun v_6 =>
     K0 (v_3, s0.1, s0.2.1, s0.2.2.1, v_6) h0
    )
   ) (
    K0 (n.2.2.1, s0.1, s0.2.1, s0.2.2.1, s0.2.2.2) h0
   )
  ) (fun t0u1 h0u1 =>
   loop (fun (s0u1 : Int × Int) h0u2 (K0u1 : (Int × Int) → Heap → Prop) =>
    iteB (decide (s0u1.2 < ((t0u1.1.len : Nat) : Int))) (
     idxS t0u1.1 s0u1.2 1 fun a_6 =>
     Lift.load (Value.int .i64) a_6 h0u2 fun v_7 =>
     seq (fun (K0u2 : Int → Heap → Prop) =>
      iteB (s0u1.1 == 0) (
       nilChk t0 fun a_7 =>
       Lift.load Sl.toV (a_7.add 2) h0u2 fun v_8 =>
       idxS v_8 v_7 1 fun a_8 =>
       Lift.load (Value.int .i64) a_8 h0u2 fun v_9 =>
       K0u2 v_9 h0u2
      ) (
       K0u2 s0u1.1 h0u2
      )
     ) (fun t0u2 h0u3 =>
      nilChk t0 fun a_9 =>
      Lift.load Sl.toV (a_9.add 2) h0u3 fun v_10 =>
      idxS v_10 v_7 1 fun a_10 =>
      Lift.load (Value.int .i64) a_10 h0u3 fun v_11 =>
      iteB (v_11 != t0u2) (
       Q 0 h0u3
      ) (
       K0u1 (t0u2, IntKind.wrap .i64 (s0u1.2 + 1)) h0u3
      )
     )
    ) (
     Q t0u1.2.2.2.2 h0u2
    )
   ) (t0u1.2.2.2.1, 0) h0u1
  )

def term_Terms_line (t0 : (Option Addr)) (n : Int × Int × Sl × Bool × Sl × Sl) (h : Heap) (Q : Bool → Heap → Prop) : Prop :=
  mem h fun h0 =>
  loop (fun (s0 : Int × Int) h0u1 (K0 : (Int × Int) → Heap → Prop) =>
   iteB (decide (s0.2 < ((n.2.2.1.len : Nat) : Int))) (
    seq (fun (K0u1 : Int → Heap → Prop) =>
     idxS n.2.2.1 s0.2 1 fun a =>
     Lift.load (Value.int .i64) a h0u1 fun v =>
     seq (fun (K0u2 : Bool → Heap → Prop) =>
      nilChk t0 fun a_1 =>
      Lift.load Sl.toV (a_1.add 3) h0u1 fun v_1 =>
      idxS v_1 v 1 fun a_2 =>
      Lift.load Value.bool a_2 h0u1 fun v_2 =>
      iteB (!v_2) (
       iteB (n.1 == 20) (
        K0u2 true h0u1
       ) (
        iteB (n.1 == 21) (
         K0u2 (decide (s0.2 > 0)) h0u1
        ) (
         K0u2 false h0u1
        )
       )
      ) (
       K0u2 false h0u1
      )
     ) (fun t0u2 h0u3 =>
      iteB t0u2 (
       Let (IntKind.wrap .i64 (s0.1 + 1) : Int) fun free =>
       K0u1 free h0u3
      ) (
       K0u1 s0.1 h0u3
      )
     )
    ) (fun t0u1 h0u2 =>
     K0 (t0u1, IntKind.wrap .i64 (s0.2 + 1)) h0u2
    )
   ) (
    seq (fun (K0u3 : Bool → Heap → Prop) =>
     iteB (s0.1 == 0) (
      K0u3 true h0u1
     ) (
      iteB (s0.1 == 1) (
       K0u3 (n.1 == 20) h0u1
      ) (
       K0u3 false h0u1
      )
     )
    ) (fun t0u3 h0u4 =>
     Q t0u3 h0u4
    )
   )
  ) (0, 0) h0

def slices_Clone_int_int (s0 : Sl) (h : Heap) (Q : Sl → Heap → Prop) : Prop :=
  iteB s0.a.isNone (
   Q Sl.nil h
  ) (
   new [] h fun a h0 =>
   appendS 1 8 (⟨some a, 0, 0⟩ : Sl) s0 h0 fun v_1 h0u1 =>
   Q v_1 h0u1
  )

def slices_IndexFunc_int_int__term_Terms_Add_c1 (s0 : Sl) (f_c : Addr) (h : Heap) (Q : Int → Heap → Prop) : Prop :=
  loop (fun (s0u1 : Int) h0 (K0 : Int → Heap → Prop) =>
   iteB (decide (s0u1 < ((s0.len : Nat) : Int))) (
    idxS s0 s0u1 1 fun a =>
    Lift.load (Value.int .i64) a h0 fun v =>
    term_Terms_Add_c1 v f_c h0 fun v_1 h0u1 =>
    iteB v_1 (
     Q s0u1 h0u1
    ) (
     K0 (IntKind.wrap .i64 (s0u1 + 1)) h0u1
    )
   ) (
    Q (-1) h0
   )
  ) 0 h

def slices_ContainsFunc_int_int__term_Terms_Add_c1 (s0 : Sl) (f_c : Addr) (h : Heap) (Q : Bool → Heap → Prop) : Prop :=
  slices_IndexFunc_int_int__term_Terms_Add_c1 s0 f_c h fun v h0 =>
  Q (decide (v ≥ 0)) h0

def term_Terms_Add (t0 : (Option Addr)) (n : Int × Int × Sl × Bool × Sl × Sl) (h : Heap) (Q : (Int × Int) → Heap → Prop) : Prop :=
  new [Value.pointer t0] h fun t0u1 h0 =>
  mem h0 fun h0u1 =>
  term_shapes n.1 h0u1 fun v h0u2 =>
  mem h0u2 fun h0u3 =>
  seq (fun (K0 : Bool → Heap → Prop) =>
   iteB (!v.2) (
    K0 true h0u3
   ) (
    Lift.load Value.pointer t0u1 h0u3 fun v_1 =>
    term_Terms_leaf v_1 (n.1, n.2.1, n.2.2.1, n.2.2.2.1, n.2.2.2.2.1, n.2.2.2.2.2) h0u3 fun v_2 h0u5 =>
    K0 (!v_2) h0u5
   )
  ) (fun t0u2 h0u4 =>
   iteB t0u2 (
    Q (0, 1) h0u4
   ) (
    slices_ContainsFunc_int_int__term_Terms_Add_c1 n.2.2.1 t0u1 h0u4 fun v_3 h0u6 =>
    iteB v_3 (
     Q (0, 2) h0u6
    ) (
     seq (fun (K0u1 : Bool → Heap → Prop) =>
      iteB (decide (((n.2.2.1.len : Nat) : Int) < v.1.1)) (
       K0u1 true h0u6
      ) (
       K0u1 (decide (((n.2.2.1.len : Nat) : Int) > v.1.2.1)) h0u6
      )
     ) (fun t0u3 h0u7 =>
      iteB t0u3 (
       Q (0, 15) h0u7
      ) (
       Lift.load Value.pointer t0u1 h0u7 fun v_4 =>
       term_Terms_sorted v_4 (n.1, n.2.1, n.2.2.1, n.2.2.2.1, n.2.2.2.2.1, n.2.2.2.2.2) (v.1.1, v.1.2.1, v.1.2.2.1, v.1.2.2.2) h0u7 fun v_5 h0u8 =>
       iteB (v_5 == 0) (
        Q (0, 14) h0u8
       ) (
        Lift.load Value.pointer t0u1 h0u8 fun v_6 =>
        term_Terms_line v_6 (n.1, n.2.1, n.2.2.1, n.2.2.2.1, n.2.2.2.2.1, n.2.2.2.2.2) h0u8 fun v_7 h0u9 =>
        iteB (!v_7) (
         Q (0, 16) h0u9
        ) (
         Lift.load Value.pointer t0u1 h0u9 fun v_8 =>
         nilChk v_8 fun a =>
         Lift.load Sl.toV (a.add 1) h0u9 fun v_9 =>
         iteB (decide (((v_9.len : Nat) : Int) ≥ 1048576)) (
          Q (0, 4) h0u9
         ) (
          slices_Clone_int_int n.2.2.1 h0u9 fun v_10 h0u10 =>
          seq (fun (K0u2 : Bool → Heap → Prop) =>
           iteB (n.1 == 5) (
            K0u2 true h0u10
           ) (
            Let (decide (n.1 ≥ 18) : Bool) fun ground =>
            K0u2 ground h0u10
           )
          ) (fun t0u4 h0u11 =>
           loop (fun (s0 : Bool × Int) h0u12 (K0u3 : (Bool × Int) → Heap → Prop) =>
            iteB (decide (s0.2 < ((v_10.len : Nat) : Int))) (
             seq (fun (K0u4 : Bool → Heap → Prop) =>
              idxS v_10 s0.2 1 fun a_1 =>
              Lift.load (Value.int .i64) a_1 h0u12 fun v_11 =>
              iteB s0.1 (
               Lift.load Value.pointer t0u1 h0u12 fun v_12 =>
               nilChk v_12 fun a_2 =>
               Lift.load Sl.toV (a_2.add 3) h0u12 fun v_13 =>
               idxS v_13 v_11 1 fun a_3 =>
               Lift.load Value.bool a_3 h0u12 fun v_14 =>
               K0u4 v_14 h0u12
              ) (
               K0u4 false h0u12
              )
             ) (fun t0u5 h0u13 =>
              K0u3 (t0u5, IntKind.wrap .i64 (s0.2 + 1)) h0u13
             )
            ) (
             seq (fun (K0u5 : Unit → Heap → Prop) =>
              Lift.load Value.pointer t0u1 h0u12 fun v_15 =>
              Lift.load Value.pointer t0u1 h0u12 fun v_16 =>
              Lift.load Value.pointer t0u1 h0u12 fun v_17 =>
              Lift.load Value.pointer t0u1 h0u12 fun v_18 =>
              nilChk v_18 fun a_4 =>
              Lift.load Sl.toV (a_4.add 1) h0u12 fun v_19 =>
              Lift.load Value.pointer t0u1 h0u12 fun v_20 =>
              nilChk v_20 fun a_5 =>
              Lift.load Sl.toV (a_5.add 2) h0u12 fun v_21 =>
              Lift.load Value.pointer t0u1 h0u12 fun v_22 =>
              nilChk v_22 fun a_6 =>
              Lift.load Sl.toV (a_6.add 3) h0u12 fun v_23 =>
              (
               new [Value.int .i64 n.1, Value.int .i64 n.2.1, Sl.toV v_10, Value.bool n.2.2.2.1, Sl.toV n.2.2.2.2.1, Sl.toV n.2.2.2.2.2] h0u12 fun a_7 h0u15 =>
               (cell? h0u15 t0u1 = some (Value.pointer v_15)) ∧
               (cell? h0u15 t0u1 = some (Value.pointer v_16)) ∧
               (cell? h0u15 t0u1 = some (Value.pointer v_17)) ∧
               (cell? h0u15 t0u1 = some (Value.pointer v_18)) ∧
               (cell? h0u15 (a_4.add 1) = some (Sl.toV v_19)) ∧
               (cell? h0u15 t0u1 = some (Value.pointer v_20)) ∧
               (cell? h0u15 (a_5.add 2) = some (Sl.toV v_21)) ∧
               (cell? h0u15 t0u1 = some (Value.pointer v_22)) ∧
               (cell? h0u15 (a_6.add 3) = some (Sl.toV v_23)) ∧
               (
                appendS 6 96 v_19 (⟨some a_7, 1, 1⟩ : Sl) h0u15 fun v_25 h0u16 =>
                (cell? h0u16 t0u1 = some (Value.pointer v_15)) ∧
                (cell? h0u16 t0u1 = some (Value.pointer v_16)) ∧
                (cell? h0u16 t0u1 = some (Value.pointer v_17)) ∧
                (cell? h0u16 t0u1 = some (Value.pointer v_20)) ∧
                (cell? h0u16 (a_5.add 2) = some (Sl.toV v_21)) ∧
                (cell? h0u16 t0u1 = some (Value.pointer v_22)) ∧
                (cell? h0u16 (a_6.add 3) = some (Sl.toV v_23)) ∧
                (
                 new [Value.int .i64 v_5] h0u16 fun a_8 h0u17 =>
                 (cell? h0u17 t0u1 = some (Value.pointer v_15)) ∧
                 (cell? h0u17 t0u1 = some (Value.pointer v_16)) ∧
                 (cell? h0u17 t0u1 = some (Value.pointer v_17)) ∧
                 (cell? h0u17 t0u1 = some (Value.pointer v_20)) ∧
                 (cell? h0u17 (a_5.add 2) = some (Sl.toV v_21)) ∧
                 (cell? h0u17 t0u1 = some (Value.pointer v_22)) ∧
                 (cell? h0u17 (a_6.add 3) = some (Sl.toV v_23)) ∧
                 (
                  appendS 1 8 v_21 (⟨some a_8, 1, 1⟩ : Sl) h0u17 fun v_27 h0u18 =>
                  (cell? h0u18 t0u1 = some (Value.pointer v_15)) ∧
                  (cell? h0u18 t0u1 = some (Value.pointer v_16)) ∧
                  (cell? h0u18 t0u1 = some (Value.pointer v_17)) ∧
                  (cell? h0u18 t0u1 = some (Value.pointer v_22)) ∧
                  (cell? h0u18 (a_6.add 3) = some (Sl.toV v_23)) ∧
                  new [Value.bool s0.1] h0u18 fun a_9 h0u19 =>
                  (cell? h0u19 t0u1 = some (Value.pointer v_15)) ∧
                  (cell? h0u19 t0u1 = some (Value.pointer v_16)) ∧
                  (cell? h0u19 t0u1 = some (Value.pointer v_17)) ∧
                  (cell? h0u19 t0u1 = some (Value.pointer v_22)) ∧
                  (cell? h0u19 (a_6.add 3) = some (Sl.toV v_23)) ∧
                  appendS 1 1 v_23 (⟨some a_9, 1, 1⟩ : Sl) h0u19 fun v_29 h0u20 =>
                  (cell? h0u20 t0u1 = some (Value.pointer v_15)) ∧
                  (cell? h0u20 t0u1 = some (Value.pointer v_16)) ∧
                  (cell? h0u20 t0u1 = some (Value.pointer v_17)) ∧
                  nilChk v_15 fun a_10 =>
                  Lift.store (a_10.add 1) (Sl.toV v_25) h0u20 fun h0u21 =>
                  (cell? h0u21 t0u1 = some (Value.pointer v_16)) ∧
                  (cell? h0u21 t0u1 = some (Value.pointer v_17)) ∧
                  nilChk v_16 fun a_11 =>
                  Lift.store (a_11.add 2) (Sl.toV v_27) h0u21 fun h0u22 =>
                  (cell? h0u22 t0u1 = some (Value.pointer v_17)) ∧
                  nilChk v_17 fun a_12 =>
                  Lift.store (a_12.add 3) (Sl.toV v_29) h0u22 fun h0u23 =>
                  K0u5 () h0u23
                 ) ∧ (
                  new [Value.bool s0.1] h0u17 fun a_13 h0u24 =>
                  (cell? h0u24 t0u1 = some (Value.pointer v_15)) ∧
                  (cell? h0u24 t0u1 = some (Value.pointer v_16)) ∧
                  (cell? h0u24 t0u1 = some (Value.pointer v_17)) ∧
                  (cell? h0u24 t0u1 = some (Value.pointer v_20)) ∧
                  (cell? h0u24 (a_5.add 2) = some (Sl.toV v_21)) ∧
                  (cell? h0u24 t0u1 = some (Value.pointer v_22)) ∧
                  (cell? h0u24 (a_6.add 3) = some (Sl.toV v_23)) ∧
                  appendS 1 8 v_21 (⟨some a_8, 1, 1⟩ : Sl) h0u24 fun v_31 h0u25 =>
                  (cell? h0u25 t0u1 = some (Value.pointer v_15)) ∧
                  (cell? h0u25 t0u1 = some (Value.pointer v_16)) ∧
                  (cell? h0u25 t0u1 = some (Value.pointer v_17)) ∧
                  (cell? h0u25 t0u1 = some (Value.pointer v_22)) ∧
                  (cell? h0u25 (a_6.add 3) = some (Sl.toV v_23)) ∧
                  appendS 1 1 v_23 (⟨some a_13, 1, 1⟩ : Sl) h0u25 fun v_32 h0u26 =>
                  (cell? h0u26 t0u1 = some (Value.pointer v_15)) ∧
                  (cell? h0u26 t0u1 = some (Value.pointer v_16)) ∧
                  (cell? h0u26 t0u1 = some (Value.pointer v_17)) ∧
                  nilChk v_15 fun a_14 =>
                  Lift.store (a_14.add 1) (Sl.toV v_25) h0u26 fun h0u27 =>
                  (cell? h0u27 t0u1 = some (Value.pointer v_16)) ∧
                  (cell? h0u27 t0u1 = some (Value.pointer v_17)) ∧
                  nilChk v_16 fun a_15 =>
                  Lift.store (a_15.add 2) (Sl.toV v_31) h0u27 fun h0u28 =>
                  (cell? h0u28 t0u1 = some (Value.pointer v_17)) ∧
                  nilChk v_17 fun a_16 =>
                  Lift.store (a_16.add 3) (Sl.toV v_32) h0u28 fun h0u29 =>
                  K0u5 () h0u29
                 )
                ) ∧ (
                 new [Value.bool s0.1] h0u16 fun a_17 h0u30 =>
                 (cell? h0u30 t0u1 = some (Value.pointer v_15)) ∧
                 (cell? h0u30 t0u1 = some (Value.pointer v_16)) ∧
                 (cell? h0u30 t0u1 = some (Value.pointer v_17)) ∧
                 (cell? h0u30 t0u1 = some (Value.pointer v_20)) ∧
                 (cell? h0u30 (a_5.add 2) = some (Sl.toV v_21)) ∧
                 (cell? h0u30 t0u1 = some (Value.pointer v_22)) ∧
                 (cell? h0u30 (a_6.add 3) = some (Sl.toV v_23)) ∧
                 new [Value.int .i64 v_5] h0u30 fun a_18 h0u31 =>
                 (cell? h0u31 t0u1 = some (Value.pointer v_15)) ∧
                 (cell? h0u31 t0u1 = some (Value.pointer v_16)) ∧
                 (cell? h0u31 t0u1 = some (Value.pointer v_17)) ∧
                 (cell? h0u31 t0u1 = some (Value.pointer v_20)) ∧
                 (cell? h0u31 (a_5.add 2) = some (Sl.toV v_21)) ∧
                 (cell? h0u31 t0u1 = some (Value.pointer v_22)) ∧
                 (cell? h0u31 (a_6.add 3) = some (Sl.toV v_23)) ∧
                 appendS 1 8 v_21 (⟨some a_18, 1, 1⟩ : Sl) h0u31 fun v_35 h0u32 =>
                 (cell? h0u32 t0u1 = some (Value.pointer v_15)) ∧
                 (cell? h0u32 t0u1 = some (Value.pointer v_16)) ∧
                 (cell? h0u32 t0u1 = some (Value.pointer v_17)) ∧
                 (cell? h0u32 t0u1 = some (Value.pointer v_22)) ∧
                 (cell? h0u32 (a_6.add 3) = some (Sl.toV v_23)) ∧
                 appendS 1 1 v_23 (⟨some a_17, 1, 1⟩ : Sl) h0u32 fun v_36 h0u33 =>
                 (cell? h0u33 t0u1 = some (Value.pointer v_15)) ∧
                 (cell? h0u33 t0u1 = some (Value.pointer v_16)) ∧
                 (cell? h0u33 t0u1 = some (Value.pointer v_17)) ∧
                 nilChk v_15 fun a_19 =>
                 Lift.store (a_19.add 1) (Sl.toV v_25) h0u33 fun h0u34 =>
                 (cell? h0u34 t0u1 = some (Value.pointer v_16)) ∧
                 (cell? h0u34 t0u1 = some (Value.pointer v_17)) ∧
                 nilChk v_16 fun a_20 =>
                 Lift.store (a_20.add 2) (Sl.toV v_35) h0u34 fun h0u35 =>
                 (cell? h0u35 t0u1 = some (Value.pointer v_17)) ∧
                 nilChk v_17 fun a_21 =>
                 Lift.store (a_21.add 3) (Sl.toV v_36) h0u35 fun h0u36 =>
                 K0u5 () h0u36
                )
               ) ∧ (
                new [Value.int .i64 v_5] h0u15 fun a_22 h0u37 =>
                (cell? h0u37 t0u1 = some (Value.pointer v_15)) ∧
                (cell? h0u37 t0u1 = some (Value.pointer v_16)) ∧
                (cell? h0u37 t0u1 = some (Value.pointer v_17)) ∧
                (cell? h0u37 t0u1 = some (Value.pointer v_18)) ∧
                (cell? h0u37 (a_4.add 1) = some (Sl.toV v_19)) ∧
                (cell? h0u37 t0u1 = some (Value.pointer v_20)) ∧
                (cell? h0u37 (a_5.add 2) = some (Sl.toV v_21)) ∧
                (cell? h0u37 t0u1 = some (Value.pointer v_22)) ∧
                (cell? h0u37 (a_6.add 3) = some (Sl.toV v_23)) ∧
                (
                 appendS 6 96 v_19 (⟨some a_7, 1, 1⟩ : Sl) h0u37 fun v_38 h0u38 =>
                 (cell? h0u38 t0u1 = some (Value.pointer v_15)) ∧
                 (cell? h0u38 t0u1 = some (Value.pointer v_16)) ∧
                 (cell? h0u38 t0u1 = some (Value.pointer v_17)) ∧
                 (cell? h0u38 t0u1 = some (Value.pointer v_20)) ∧
                 (cell? h0u38 (a_5.add 2) = some (Sl.toV v_21)) ∧
                 (cell? h0u38 t0u1 = some (Value.pointer v_22)) ∧
                 (cell? h0u38 (a_6.add 3) = some (Sl.toV v_23)) ∧
                 (
                  appendS 1 8 v_21 (⟨some a_22, 1, 1⟩ : Sl) h0u38 fun v_39 h0u39 =>
                  (cell? h0u39 t0u1 = some (Value.pointer v_15)) ∧
                  (cell? h0u39 t0u1 = some (Value.pointer v_16)) ∧
                  (cell? h0u39 t0u1 = some (Value.pointer v_17)) ∧
                  (cell? h0u39 t0u1 = some (Value.pointer v_22)) ∧
                  (cell? h0u39 (a_6.add 3) = some (Sl.toV v_23)) ∧
                  new [Value.bool s0.1] h0u39 fun a_23 h0u40 =>
                  (cell? h0u40 t0u1 = some (Value.pointer v_15)) ∧
                  (cell? h0u40 t0u1 = some (Value.pointer v_16)) ∧
                  (cell? h0u40 t0u1 = some (Value.pointer v_17)) ∧
                  (cell? h0u40 t0u1 = some (Value.pointer v_22)) ∧
                  (cell? h0u40 (a_6.add 3) = some (Sl.toV v_23)) ∧
                  appendS 1 1 v_23 (⟨some a_23, 1, 1⟩ : Sl) h0u40 fun v_41 h0u41 =>
                  (cell? h0u41 t0u1 = some (Value.pointer v_15)) ∧
                  (cell? h0u41 t0u1 = some (Value.pointer v_16)) ∧
                  (cell? h0u41 t0u1 = some (Value.pointer v_17)) ∧
                  nilChk v_15 fun a_24 =>
                  Lift.store (a_24.add 1) (Sl.toV v_38) h0u41 fun h0u42 =>
                  (cell? h0u42 t0u1 = some (Value.pointer v_16)) ∧
                  (cell? h0u42 t0u1 = some (Value.pointer v_17)) ∧
                  nilChk v_16 fun a_25 =>
                  Lift.store (a_25.add 2) (Sl.toV v_39) h0u42 fun h0u43 =>
                  (cell? h0u43 t0u1 = some (Value.pointer v_17)) ∧
                  nilChk v_17 fun a_26 =>
                  Lift.store (a_26.add 3) (Sl.toV v_41) h0u43 fun h0u44 =>
                  K0u5 () h0u44
                 ) ∧ (
                  new [Value.bool s0.1] h0u38 fun a_27 h0u45 =>
                  (cell? h0u45 t0u1 = some (Value.pointer v_15)) ∧
                  (cell? h0u45 t0u1 = some (Value.pointer v_16)) ∧
                  (cell? h0u45 t0u1 = some (Value.pointer v_17)) ∧
                  (cell? h0u45 t0u1 = some (Value.pointer v_20)) ∧
                  (cell? h0u45 (a_5.add 2) = some (Sl.toV v_21)) ∧
                  (cell? h0u45 t0u1 = some (Value.pointer v_22)) ∧
                  (cell? h0u45 (a_6.add 3) = some (Sl.toV v_23)) ∧
                  appendS 1 8 v_21 (⟨some a_22, 1, 1⟩ : Sl) h0u45 fun v_43 h0u46 =>
                  (cell? h0u46 t0u1 = some (Value.pointer v_15)) ∧
                  (cell? h0u46 t0u1 = some (Value.pointer v_16)) ∧
                  (cell? h0u46 t0u1 = some (Value.pointer v_17)) ∧
                  (cell? h0u46 t0u1 = some (Value.pointer v_22)) ∧
                  (cell? h0u46 (a_6.add 3) = some (Sl.toV v_23)) ∧
                  appendS 1 1 v_23 (⟨some a_27, 1, 1⟩ : Sl) h0u46 fun v_44 h0u47 =>
                  (cell? h0u47 t0u1 = some (Value.pointer v_15)) ∧
                  (cell? h0u47 t0u1 = some (Value.pointer v_16)) ∧
                  (cell? h0u47 t0u1 = some (Value.pointer v_17)) ∧
                  nilChk v_15 fun a_28 =>
                  Lift.store (a_28.add 1) (Sl.toV v_38) h0u47 fun h0u48 =>
                  (cell? h0u48 t0u1 = some (Value.pointer v_16)) ∧
                  (cell? h0u48 t0u1 = some (Value.pointer v_17)) ∧
                  nilChk v_16 fun a_29 =>
                  Lift.store (a_29.add 2) (Sl.toV v_43) h0u48 fun h0u49 =>
                  (cell? h0u49 t0u1 = some (Value.pointer v_17)) ∧
                  nilChk v_17 fun a_30 =>
                  Lift.store (a_30.add 3) (Sl.toV v_44) h0u49 fun h0u50 =>
                  K0u5 () h0u50
                 )
                ) ∧ (
                 new [Value.bool s0.1] h0u37 fun a_31 h0u51 =>
                 (cell? h0u51 t0u1 = some (Value.pointer v_15)) ∧
                 (cell? h0u51 t0u1 = some (Value.pointer v_16)) ∧
                 (cell? h0u51 t0u1 = some (Value.pointer v_17)) ∧
                 (cell? h0u51 t0u1 = some (Value.pointer v_18)) ∧
                 (cell? h0u51 (a_4.add 1) = some (Sl.toV v_19)) ∧
                 (cell? h0u51 t0u1 = some (Value.pointer v_20)) ∧
                 (cell? h0u51 (a_5.add 2) = some (Sl.toV v_21)) ∧
                 (cell? h0u51 t0u1 = some (Value.pointer v_22)) ∧
                 (cell? h0u51 (a_6.add 3) = some (Sl.toV v_23)) ∧
                 appendS 6 96 v_19 (⟨some a_7, 1, 1⟩ : Sl) h0u51 fun v_46 h0u52 =>
                 (cell? h0u52 t0u1 = some (Value.pointer v_15)) ∧
                 (cell? h0u52 t0u1 = some (Value.pointer v_16)) ∧
                 (cell? h0u52 t0u1 = some (Value.pointer v_17)) ∧
                 (cell? h0u52 t0u1 = some (Value.pointer v_20)) ∧
                 (cell? h0u52 (a_5.add 2) = some (Sl.toV v_21)) ∧
                 (cell? h0u52 t0u1 = some (Value.pointer v_22)) ∧
                 (cell? h0u52 (a_6.add 3) = some (Sl.toV v_23)) ∧
                 appendS 1 8 v_21 (⟨some a_22, 1, 1⟩ : Sl) h0u52 fun v_47 h0u53 =>
                 (cell? h0u53 t0u1 = some (Value.pointer v_15)) ∧
                 (cell? h0u53 t0u1 = some (Value.pointer v_16)) ∧
                 (cell? h0u53 t0u1 = some (Value.pointer v_17)) ∧
                 (cell? h0u53 t0u1 = some (Value.pointer v_22)) ∧
                 (cell? h0u53 (a_6.add 3) = some (Sl.toV v_23)) ∧
                 appendS 1 1 v_23 (⟨some a_31, 1, 1⟩ : Sl) h0u53 fun v_48 h0u54 =>
                 (cell? h0u54 t0u1 = some (Value.pointer v_15)) ∧
                 (cell? h0u54 t0u1 = some (Value.pointer v_16)) ∧
                 (cell? h0u54 t0u1 = some (Value.pointer v_17)) ∧
                 nilChk v_15 fun a_32 =>
                 Lift.store (a_32.add 1) (Sl.toV v_46) h0u54 fun h0u55 =>
                 (cell? h0u55 t0u1 = some (Value.pointer v_16)) ∧
                 (cell? h0u55 t0u1 = some (Value.pointer v_17)) ∧
                 nilChk v_16 fun a_33 =>
                 Lift.store (a_33.add 2) (Sl.toV v_47) h0u55 fun h0u56 =>
                 (cell? h0u56 t0u1 = some (Value.pointer v_17)) ∧
                 nilChk v_17 fun a_34 =>
                 Lift.store (a_34.add 3) (Sl.toV v_48) h0u56 fun h0u57 =>
                 K0u5 () h0u57
                )
               ) ∧ (
                new [Value.bool s0.1] h0u15 fun a_35 h0u58 =>
                (cell? h0u58 t0u1 = some (Value.pointer v_15)) ∧
                (cell? h0u58 t0u1 = some (Value.pointer v_16)) ∧
                (cell? h0u58 t0u1 = some (Value.pointer v_17)) ∧
                (cell? h0u58 t0u1 = some (Value.pointer v_18)) ∧
                (cell? h0u58 (a_4.add 1) = some (Sl.toV v_19)) ∧
                (cell? h0u58 t0u1 = some (Value.pointer v_20)) ∧
                (cell? h0u58 (a_5.add 2) = some (Sl.toV v_21)) ∧
                (cell? h0u58 t0u1 = some (Value.pointer v_22)) ∧
                (cell? h0u58 (a_6.add 3) = some (Sl.toV v_23)) ∧
                (
                 appendS 6 96 v_19 (⟨some a_7, 1, 1⟩ : Sl) h0u58 fun v_50 h0u59 =>
                 (cell? h0u59 t0u1 = some (Value.pointer v_15)) ∧
                 (cell? h0u59 t0u1 = some (Value.pointer v_16)) ∧
                 (cell? h0u59 t0u1 = some (Value.pointer v_17)) ∧
                 (cell? h0u59 t0u1 = some (Value.pointer v_20)) ∧
                 (cell? h0u59 (a_5.add 2) = some (Sl.toV v_21)) ∧
                 (cell? h0u59 t0u1 = some (Value.pointer v_22)) ∧
                 (cell? h0u59 (a_6.add 3) = some (Sl.toV v_23)) ∧
                 new [Value.int .i64 v_5] h0u59 fun a_36 h0u60 =>
                 (cell? h0u60 t0u1 = some (Value.pointer v_15)) ∧
                 (cell? h0u60 t0u1 = some (Value.pointer v_16)) ∧
                 (cell? h0u60 t0u1 = some (Value.pointer v_17)) ∧
                 (cell? h0u60 t0u1 = some (Value.pointer v_20)) ∧
                 (cell? h0u60 (a_5.add 2) = some (Sl.toV v_21)) ∧
                 (cell? h0u60 t0u1 = some (Value.pointer v_22)) ∧
                 (cell? h0u60 (a_6.add 3) = some (Sl.toV v_23)) ∧
                 appendS 1 8 v_21 (⟨some a_36, 1, 1⟩ : Sl) h0u60 fun v_52 h0u61 =>
                 (cell? h0u61 t0u1 = some (Value.pointer v_15)) ∧
                 (cell? h0u61 t0u1 = some (Value.pointer v_16)) ∧
                 (cell? h0u61 t0u1 = some (Value.pointer v_17)) ∧
                 (cell? h0u61 t0u1 = some (Value.pointer v_22)) ∧
                 (cell? h0u61 (a_6.add 3) = some (Sl.toV v_23)) ∧
                 appendS 1 1 v_23 (⟨some a_35, 1, 1⟩ : Sl) h0u61 fun v_53 h0u62 =>
                 (cell? h0u62 t0u1 = some (Value.pointer v_15)) ∧
                 (cell? h0u62 t0u1 = some (Value.pointer v_16)) ∧
                 (cell? h0u62 t0u1 = some (Value.pointer v_17)) ∧
                 nilChk v_15 fun a_37 =>
                 Lift.store (a_37.add 1) (Sl.toV v_50) h0u62 fun h0u63 =>
                 (cell? h0u63 t0u1 = some (Value.pointer v_16)) ∧
                 (cell? h0u63 t0u1 = some (Value.pointer v_17)) ∧
                 nilChk v_16 fun a_38 =>
                 Lift.store (a_38.add 2) (Sl.toV v_52) h0u63 fun h0u64 =>
                 (cell? h0u64 t0u1 = some (Value.pointer v_17)) ∧
                 nilChk v_17 fun a_39 =>
                 Lift.store (a_39.add 3) (Sl.toV v_53) h0u64 fun h0u65 =>
                 K0u5 () h0u65
                ) ∧ (
                 new [Value.int .i64 v_5] h0u58 fun a_40 h0u66 =>
                 (cell? h0u66 t0u1 = some (Value.pointer v_15)) ∧
                 (cell? h0u66 t0u1 = some (Value.pointer v_16)) ∧
                 (cell? h0u66 t0u1 = some (Value.pointer v_17)) ∧
                 (cell? h0u66 t0u1 = some (Value.pointer v_18)) ∧
                 (cell? h0u66 (a_4.add 1) = some (Sl.toV v_19)) ∧
                 (cell? h0u66 t0u1 = some (Value.pointer v_20)) ∧
                 (cell? h0u66 (a_5.add 2) = some (Sl.toV v_21)) ∧
                 (cell? h0u66 t0u1 = some (Value.pointer v_22)) ∧
                 (cell? h0u66 (a_6.add 3) = some (Sl.toV v_23)) ∧
                 appendS 6 96 v_19 (⟨some a_7, 1, 1⟩ : Sl) h0u66 fun v_55 h0u67 =>
                 (cell? h0u67 t0u1 = some (Value.pointer v_15)) ∧
                 (cell? h0u67 t0u1 = some (Value.pointer v_16)) ∧
                 (cell? h0u67 t0u1 = some (Value.pointer v_17)) ∧
                 (cell? h0u67 t0u1 = some (Value.pointer v_20)) ∧
                 (cell? h0u67 (a_5.add 2) = some (Sl.toV v_21)) ∧
                 (cell? h0u67 t0u1 = some (Value.pointer v_22)) ∧
                 (cell? h0u67 (a_6.add 3) = some (Sl.toV v_23)) ∧
                 appendS 1 8 v_21 (⟨some a_40, 1, 1⟩ : Sl) h0u67 fun v_56 h0u68 =>
                 (cell? h0u68 t0u1 = some (Value.pointer v_15)) ∧
                 (cell? h0u68 t0u1 = some (Value.pointer v_16)) ∧
                 (cell? h0u68 t0u1 = some (Value.pointer v_17)) ∧
                 (cell? h0u68 t0u1 = some (Value.pointer v_22)) ∧
                 (cell? h0u68 (a_6.add 3) = some (Sl.toV v_23)) ∧
                 appendS 1 1 v_23 (⟨some a_35, 1, 1⟩ : Sl) h0u68 fun v_57 h0u69 =>
                 (cell? h0u69 t0u1 = some (Value.pointer v_15)) ∧
                 (cell? h0u69 t0u1 = some (Value.pointer v_16)) ∧
                 (cell? h0u69 t0u1 = some (Value.pointer v_17)) ∧
                 nilChk v_15 fun a_41 =>
                 Lift.store (a_41.add 1) (Sl.toV v_55) h0u69 fun h0u70 =>
                 (cell? h0u70 t0u1 = some (Value.pointer v_16)) ∧
                 (cell? h0u70 t0u1 = some (Value.pointer v_17)) ∧
                 nilChk v_16 fun a_42 =>
                 Lift.store (a_42.add 2) (Sl.toV v_56) h0u70 fun h0u71 =>
                 (cell? h0u71 t0u1 = some (Value.pointer v_17)) ∧
                 nilChk v_17 fun a_43 =>
                 Lift.store (a_43.add 3) (Sl.toV v_57) h0u71 fun h0u72 =>
                 K0u5 () h0u72
                )
               )
              ) ∧ (
               new [Value.int .i64 v_5] h0u12 fun a_44 h0u73 =>
               (cell? h0u73 t0u1 = some (Value.pointer v_15)) ∧
               (cell? h0u73 t0u1 = some (Value.pointer v_16)) ∧
               (cell? h0u73 t0u1 = some (Value.pointer v_17)) ∧
               (cell? h0u73 t0u1 = some (Value.pointer v_18)) ∧
               (cell? h0u73 (a_4.add 1) = some (Sl.toV v_19)) ∧
               (cell? h0u73 t0u1 = some (Value.pointer v_20)) ∧
               (cell? h0u73 (a_5.add 2) = some (Sl.toV v_21)) ∧
               (cell? h0u73 t0u1 = some (Value.pointer v_22)) ∧
               (cell? h0u73 (a_6.add 3) = some (Sl.toV v_23)) ∧
               (
                new [Value.int .i64 n.1, Value.int .i64 n.2.1, Sl.toV v_10, Value.bool n.2.2.2.1, Sl.toV n.2.2.2.2.1, Sl.toV n.2.2.2.2.2] h0u73 fun a_45 h0u74 =>
                (cell? h0u74 t0u1 = some (Value.pointer v_15)) ∧
                (cell? h0u74 t0u1 = some (Value.pointer v_16)) ∧
                (cell? h0u74 t0u1 = some (Value.pointer v_17)) ∧
                (cell? h0u74 t0u1 = some (Value.pointer v_18)) ∧
                (cell? h0u74 (a_4.add 1) = some (Sl.toV v_19)) ∧
                (cell? h0u74 t0u1 = some (Value.pointer v_20)) ∧
                (cell? h0u74 (a_5.add 2) = some (Sl.toV v_21)) ∧
                (cell? h0u74 t0u1 = some (Value.pointer v_22)) ∧
                (cell? h0u74 (a_6.add 3) = some (Sl.toV v_23)) ∧
                (
                 appendS 6 96 v_19 (⟨some a_45, 1, 1⟩ : Sl) h0u74 fun v_60 h0u75 =>
                 (cell? h0u75 t0u1 = some (Value.pointer v_15)) ∧
                 (cell? h0u75 t0u1 = some (Value.pointer v_16)) ∧
                 (cell? h0u75 t0u1 = some (Value.pointer v_17)) ∧
                 (cell? h0u75 t0u1 = some (Value.pointer v_20)) ∧
                 (cell? h0u75 (a_5.add 2) = some (Sl.toV v_21)) ∧
                 (cell? h0u75 t0u1 = some (Value.pointer v_22)) ∧
                 (cell? h0u75 (a_6.add 3) = some (Sl.toV v_23)) ∧
                 (
                  appendS 1 8 v_21 (⟨some a_44, 1, 1⟩ : Sl) h0u75 fun v_61 h0u76 =>
                  (cell? h0u76 t0u1 = some (Value.pointer v_15)) ∧
                  (cell? h0u76 t0u1 = some (Value.pointer v_16)) ∧
                  (cell? h0u76 t0u1 = some (Value.pointer v_17)) ∧
                  (cell? h0u76 t0u1 = some (Value.pointer v_22)) ∧
                  (cell? h0u76 (a_6.add 3) = some (Sl.toV v_23)) ∧
                  new [Value.bool s0.1] h0u76 fun a_46 h0u77 =>
                  (cell? h0u77 t0u1 = some (Value.pointer v_15)) ∧
                  (cell? h0u77 t0u1 = some (Value.pointer v_16)) ∧
                  (cell? h0u77 t0u1 = some (Value.pointer v_17)) ∧
                  (cell? h0u77 t0u1 = some (Value.pointer v_22)) ∧
                  (cell? h0u77 (a_6.add 3) = some (Sl.toV v_23)) ∧
                  appendS 1 1 v_23 (⟨some a_46, 1, 1⟩ : Sl) h0u77 fun v_63 h0u78 =>
                  (cell? h0u78 t0u1 = some (Value.pointer v_15)) ∧
                  (cell? h0u78 t0u1 = some (Value.pointer v_16)) ∧
                  (cell? h0u78 t0u1 = some (Value.pointer v_17)) ∧
                  nilChk v_15 fun a_47 =>
                  Lift.store (a_47.add 1) (Sl.toV v_60) h0u78 fun h0u79 =>
                  (cell? h0u79 t0u1 = some (Value.pointer v_16)) ∧
                  (cell? h0u79 t0u1 = some (Value.pointer v_17)) ∧
                  nilChk v_16 fun a_48 =>
                  Lift.store (a_48.add 2) (Sl.toV v_61) h0u79 fun h0u80 =>
                  (cell? h0u80 t0u1 = some (Value.pointer v_17)) ∧
                  nilChk v_17 fun a_49 =>
                  Lift.store (a_49.add 3) (Sl.toV v_63) h0u80 fun h0u81 =>
                  K0u5 () h0u81
                 ) ∧ (
                  new [Value.bool s0.1] h0u75 fun a_50 h0u82 =>
                  (cell? h0u82 t0u1 = some (Value.pointer v_15)) ∧
                  (cell? h0u82 t0u1 = some (Value.pointer v_16)) ∧
                  (cell? h0u82 t0u1 = some (Value.pointer v_17)) ∧
                  (cell? h0u82 t0u1 = some (Value.pointer v_20)) ∧
                  (cell? h0u82 (a_5.add 2) = some (Sl.toV v_21)) ∧
                  (cell? h0u82 t0u1 = some (Value.pointer v_22)) ∧
                  (cell? h0u82 (a_6.add 3) = some (Sl.toV v_23)) ∧
                  appendS 1 8 v_21 (⟨some a_44, 1, 1⟩ : Sl) h0u82 fun v_65 h0u83 =>
                  (cell? h0u83 t0u1 = some (Value.pointer v_15)) ∧
                  (cell? h0u83 t0u1 = some (Value.pointer v_16)) ∧
                  (cell? h0u83 t0u1 = some (Value.pointer v_17)) ∧
                  (cell? h0u83 t0u1 = some (Value.pointer v_22)) ∧
                  (cell? h0u83 (a_6.add 3) = some (Sl.toV v_23)) ∧
                  appendS 1 1 v_23 (⟨some a_50, 1, 1⟩ : Sl) h0u83 fun v_66 h0u84 =>
                  (cell? h0u84 t0u1 = some (Value.pointer v_15)) ∧
                  (cell? h0u84 t0u1 = some (Value.pointer v_16)) ∧
                  (cell? h0u84 t0u1 = some (Value.pointer v_17)) ∧
                  nilChk v_15 fun a_51 =>
                  Lift.store (a_51.add 1) (Sl.toV v_60) h0u84 fun h0u85 =>
                  (cell? h0u85 t0u1 = some (Value.pointer v_16)) ∧
                  (cell? h0u85 t0u1 = some (Value.pointer v_17)) ∧
                  nilChk v_16 fun a_52 =>
                  Lift.store (a_52.add 2) (Sl.toV v_65) h0u85 fun h0u86 =>
                  (cell? h0u86 t0u1 = some (Value.pointer v_17)) ∧
                  nilChk v_17 fun a_53 =>
                  Lift.store (a_53.add 3) (Sl.toV v_66) h0u86 fun h0u87 =>
                  K0u5 () h0u87
                 )
                ) ∧ (
                 new [Value.bool s0.1] h0u74 fun a_54 h0u88 =>
                 (cell? h0u88 t0u1 = some (Value.pointer v_15)) ∧
                 (cell? h0u88 t0u1 = some (Value.pointer v_16)) ∧
                 (cell? h0u88 t0u1 = some (Value.pointer v_17)) ∧
                 (cell? h0u88 t0u1 = some (Value.pointer v_18)) ∧
                 (cell? h0u88 (a_4.add 1) = some (Sl.toV v_19)) ∧
                 (cell? h0u88 t0u1 = some (Value.pointer v_20)) ∧
                 (cell? h0u88 (a_5.add 2) = some (Sl.toV v_21)) ∧
                 (cell? h0u88 t0u1 = some (Value.pointer v_22)) ∧
                 (cell? h0u88 (a_6.add 3) = some (Sl.toV v_23)) ∧
                 appendS 6 96 v_19 (⟨some a_45, 1, 1⟩ : Sl) h0u88 fun v_68 h0u89 =>
                 (cell? h0u89 t0u1 = some (Value.pointer v_15)) ∧
                 (cell? h0u89 t0u1 = some (Value.pointer v_16)) ∧
                 (cell? h0u89 t0u1 = some (Value.pointer v_17)) ∧
                 (cell? h0u89 t0u1 = some (Value.pointer v_20)) ∧
                 (cell? h0u89 (a_5.add 2) = some (Sl.toV v_21)) ∧
                 (cell? h0u89 t0u1 = some (Value.pointer v_22)) ∧
                 (cell? h0u89 (a_6.add 3) = some (Sl.toV v_23)) ∧
                 appendS 1 8 v_21 (⟨some a_44, 1, 1⟩ : Sl) h0u89 fun v_69 h0u90 =>
                 (cell? h0u90 t0u1 = some (Value.pointer v_15)) ∧
                 (cell? h0u90 t0u1 = some (Value.pointer v_16)) ∧
                 (cell? h0u90 t0u1 = some (Value.pointer v_17)) ∧
                 (cell? h0u90 t0u1 = some (Value.pointer v_22)) ∧
                 (cell? h0u90 (a_6.add 3) = some (Sl.toV v_23)) ∧
                 appendS 1 1 v_23 (⟨some a_54, 1, 1⟩ : Sl) h0u90 fun v_70 h0u91 =>
                 (cell? h0u91 t0u1 = some (Value.pointer v_15)) ∧
                 (cell? h0u91 t0u1 = some (Value.pointer v_16)) ∧
                 (cell? h0u91 t0u1 = some (Value.pointer v_17)) ∧
                 nilChk v_15 fun a_55 =>
                 Lift.store (a_55.add 1) (Sl.toV v_68) h0u91 fun h0u92 =>
                 (cell? h0u92 t0u1 = some (Value.pointer v_16)) ∧
                 (cell? h0u92 t0u1 = some (Value.pointer v_17)) ∧
                 nilChk v_16 fun a_56 =>
                 Lift.store (a_56.add 2) (Sl.toV v_69) h0u92 fun h0u93 =>
                 (cell? h0u93 t0u1 = some (Value.pointer v_17)) ∧
                 nilChk v_17 fun a_57 =>
                 Lift.store (a_57.add 3) (Sl.toV v_70) h0u93 fun h0u94 =>
                 K0u5 () h0u94
                )
               ) ∧ (
                new [Value.bool s0.1] h0u73 fun a_58 h0u95 =>
                (cell? h0u95 t0u1 = some (Value.pointer v_15)) ∧
                (cell? h0u95 t0u1 = some (Value.pointer v_16)) ∧
                (cell? h0u95 t0u1 = some (Value.pointer v_17)) ∧
                (cell? h0u95 t0u1 = some (Value.pointer v_18)) ∧
                (cell? h0u95 (a_4.add 1) = some (Sl.toV v_19)) ∧
                (cell? h0u95 t0u1 = some (Value.pointer v_20)) ∧
                (cell? h0u95 (a_5.add 2) = some (Sl.toV v_21)) ∧
                (cell? h0u95 t0u1 = some (Value.pointer v_22)) ∧
                (cell? h0u95 (a_6.add 3) = some (Sl.toV v_23)) ∧
                new [Value.int .i64 n.1, Value.int .i64 n.2.1, Sl.toV v_10, Value.bool n.2.2.2.1, Sl.toV n.2.2.2.2.1, Sl.toV n.2.2.2.2.2] h0u95 fun a_59 h0u96 =>
                (cell? h0u96 t0u1 = some (Value.pointer v_15)) ∧
                (cell? h0u96 t0u1 = some (Value.pointer v_16)) ∧
                (cell? h0u96 t0u1 = some (Value.pointer v_17)) ∧
                (cell? h0u96 t0u1 = some (Value.pointer v_18)) ∧
                (cell? h0u96 (a_4.add 1) = some (Sl.toV v_19)) ∧
                (cell? h0u96 t0u1 = some (Value.pointer v_20)) ∧
                (cell? h0u96 (a_5.add 2) = some (Sl.toV v_21)) ∧
                (cell? h0u96 t0u1 = some (Value.pointer v_22)) ∧
                (cell? h0u96 (a_6.add 3) = some (Sl.toV v_23)) ∧
                appendS 6 96 v_19 (⟨some a_59, 1, 1⟩ : Sl) h0u96 fun v_73 h0u97 =>
                (cell? h0u97 t0u1 = some (Value.pointer v_15)) ∧
                (cell? h0u97 t0u1 = some (Value.pointer v_16)) ∧
                (cell? h0u97 t0u1 = some (Value.pointer v_17)) ∧
                (cell? h0u97 t0u1 = some (Value.pointer v_20)) ∧
                (cell? h0u97 (a_5.add 2) = some (Sl.toV v_21)) ∧
                (cell? h0u97 t0u1 = some (Value.pointer v_22)) ∧
                (cell? h0u97 (a_6.add 3) = some (Sl.toV v_23)) ∧
                appendS 1 8 v_21 (⟨some a_44, 1, 1⟩ : Sl) h0u97 fun v_74 h0u98 =>
                (cell? h0u98 t0u1 = some (Value.pointer v_15)) ∧
                (cell? h0u98 t0u1 = some (Value.pointer v_16)) ∧
                (cell? h0u98 t0u1 = some (Value.pointer v_17)) ∧
                (cell? h0u98 t0u1 = some (Value.pointer v_22)) ∧
                (cell? h0u98 (a_6.add 3) = some (Sl.toV v_23)) ∧
                appendS 1 1 v_23 (⟨some a_58, 1, 1⟩ : Sl) h0u98 fun v_75 h0u99 =>
                (cell? h0u99 t0u1 = some (Value.pointer v_15)) ∧
                (cell? h0u99 t0u1 = some (Value.pointer v_16)) ∧
                (cell? h0u99 t0u1 = some (Value.pointer v_17)) ∧
                nilChk v_15 fun a_60 =>
                Lift.store (a_60.add 1) (Sl.toV v_73) h0u99 fun h0u100 =>
                (cell? h0u100 t0u1 = some (Value.pointer v_16)) ∧
                (cell? h0u100 t0u1 = some (Value.pointer v_17)) ∧
                nilChk v_16 fun a_61 =>
                Lift.store (a_61.add 2) (Sl.toV v_74) h0u100 fun h0u101 =>
                (cell? h0u101 t0u1 = some (Value.pointer v_17)) ∧
                nilChk v_17 fun a_62 =>
                Lift.store (a_62.add 3) (Sl.toV v_75) h0u101 fun h0u102 =>
                K0u5 () h0u102
               )
              ) ∧ (
               new [Value.bool s0.1] h0u12 fun a_63 h0u103 =>
               (cell? h0u103 t0u1 = some (Value.pointer v_15)) ∧
               (cell? h0u103 t0u1 = some (Value.pointer v_16)) ∧
               (cell? h0u103 t0u1 = some (Value.pointer v_17)) ∧
               (cell? h0u103 t0u1 = some (Value.pointer v_18)) ∧
               (cell? h0u103 (a_4.add 1) = some (Sl.toV v_19)) ∧
               (cell? h0u103 t0u1 = some (Value.pointer v_20)) ∧
               (cell? h0u103 (a_5.add 2) = some (Sl.toV v_21)) ∧
               (cell? h0u103 t0u1 = some (Value.pointer v_22)) ∧
               (cell? h0u103 (a_6.add 3) = some (Sl.toV v_23)) ∧
               (
                new [Value.int .i64 n.1, Value.int .i64 n.2.1, Sl.toV v_10, Value.bool n.2.2.2.1, Sl.toV n.2.2.2.2.1, Sl.toV n.2.2.2.2.2] h0u103 fun a_64 h0u104 =>
                (cell? h0u104 t0u1 = some (Value.pointer v_15)) ∧
                (cell? h0u104 t0u1 = some (Value.pointer v_16)) ∧
                (cell? h0u104 t0u1 = some (Value.pointer v_17)) ∧
                (cell? h0u104 t0u1 = some (Value.pointer v_18)) ∧
                (cell? h0u104 (a_4.add 1) = some (Sl.toV v_19)) ∧
                (cell? h0u104 t0u1 = some (Value.pointer v_20)) ∧
                (cell? h0u104 (a_5.add 2) = some (Sl.toV v_21)) ∧
                (cell? h0u104 t0u1 = some (Value.pointer v_22)) ∧
                (cell? h0u104 (a_6.add 3) = some (Sl.toV v_23)) ∧
                (
                 appendS 6 96 v_19 (⟨some a_64, 1, 1⟩ : Sl) h0u104 fun v_78 h0u105 =>
                 (cell? h0u105 t0u1 = some (Value.pointer v_15)) ∧
                 (cell? h0u105 t0u1 = some (Value.pointer v_16)) ∧
                 (cell? h0u105 t0u1 = some (Value.pointer v_17)) ∧
                 (cell? h0u105 t0u1 = some (Value.pointer v_20)) ∧
                 (cell? h0u105 (a_5.add 2) = some (Sl.toV v_21)) ∧
                 (cell? h0u105 t0u1 = some (Value.pointer v_22)) ∧
                 (cell? h0u105 (a_6.add 3) = some (Sl.toV v_23)) ∧
                 new [Value.int .i64 v_5] h0u105 fun a_65 h0u106 =>
                 (cell? h0u106 t0u1 = some (Value.pointer v_15)) ∧
                 (cell? h0u106 t0u1 = some (Value.pointer v_16)) ∧
                 (cell? h0u106 t0u1 = some (Value.pointer v_17)) ∧
                 (cell? h0u106 t0u1 = some (Value.pointer v_20)) ∧
                 (cell? h0u106 (a_5.add 2) = some (Sl.toV v_21)) ∧
                 (cell? h0u106 t0u1 = some (Value.pointer v_22)) ∧
                 (cell? h0u106 (a_6.add 3) = some (Sl.toV v_23)) ∧
                 appendS 1 8 v_21 (⟨some a_65, 1, 1⟩ : Sl) h0u106 fun v_80 h0u107 =>
                 (cell? h0u107 t0u1 = some (Value.pointer v_15)) ∧
                 (cell? h0u107 t0u1 = some (Value.pointer v_16)) ∧
                 (cell? h0u107 t0u1 = some (Value.pointer v_17)) ∧
                 (cell? h0u107 t0u1 = some (Value.pointer v_22)) ∧
                 (cell? h0u107 (a_6.add 3) = some (Sl.toV v_23)) ∧
                 appendS 1 1 v_23 (⟨some a_63, 1, 1⟩ : Sl) h0u107 fun v_81 h0u108 =>
                 (cell? h0u108 t0u1 = some (Value.pointer v_15)) ∧
                 (cell? h0u108 t0u1 = some (Value.pointer v_16)) ∧
                 (cell? h0u108 t0u1 = some (Value.pointer v_17)) ∧
                 nilChk v_15 fun a_66 =>
                 Lift.store (a_66.add 1) (Sl.toV v_78) h0u108 fun h0u109 =>
                 (cell? h0u109 t0u1 = some (Value.pointer v_16)) ∧
                 (cell? h0u109 t0u1 = some (Value.pointer v_17)) ∧
                 nilChk v_16 fun a_67 =>
                 Lift.store (a_67.add 2) (Sl.toV v_80) h0u109 fun h0u110 =>
                 (cell? h0u110 t0u1 = some (Value.pointer v_17)) ∧
                 nilChk v_17 fun a_68 =>
                 Lift.store (a_68.add 3) (Sl.toV v_81) h0u110 fun h0u111 =>
                 K0u5 () h0u111
                ) ∧ (
                 new [Value.int .i64 v_5] h0u104 fun a_69 h0u112 =>
                 (cell? h0u112 t0u1 = some (Value.pointer v_15)) ∧
                 (cell? h0u112 t0u1 = some (Value.pointer v_16)) ∧
                 (cell? h0u112 t0u1 = some (Value.pointer v_17)) ∧
                 (cell? h0u112 t0u1 = some (Value.pointer v_18)) ∧
                 (cell? h0u112 (a_4.add 1) = some (Sl.toV v_19)) ∧
                 (cell? h0u112 t0u1 = some (Value.pointer v_20)) ∧
                 (cell? h0u112 (a_5.add 2) = some (Sl.toV v_21)) ∧
                 (cell? h0u112 t0u1 = some (Value.pointer v_22)) ∧
                 (cell? h0u112 (a_6.add 3) = some (Sl.toV v_23)) ∧
                 appendS 6 96 v_19 (⟨some a_64, 1, 1⟩ : Sl) h0u112 fun v_83 h0u113 =>
                 (cell? h0u113 t0u1 = some (Value.pointer v_15)) ∧
                 (cell? h0u113 t0u1 = some (Value.pointer v_16)) ∧
                 (cell? h0u113 t0u1 = some (Value.pointer v_17)) ∧
                 (cell? h0u113 t0u1 = some (Value.pointer v_20)) ∧
                 (cell? h0u113 (a_5.add 2) = some (Sl.toV v_21)) ∧
                 (cell? h0u113 t0u1 = some (Value.pointer v_22)) ∧
                 (cell? h0u113 (a_6.add 3) = some (Sl.toV v_23)) ∧
                 appendS 1 8 v_21 (⟨some a_69, 1, 1⟩ : Sl) h0u113 fun v_84 h0u114 =>
                 (cell? h0u114 t0u1 = some (Value.pointer v_15)) ∧
                 (cell? h0u114 t0u1 = some (Value.pointer v_16)) ∧
                 (cell? h0u114 t0u1 = some (Value.pointer v_17)) ∧
                 (cell? h0u114 t0u1 = some (Value.pointer v_22)) ∧
                 (cell? h0u114 (a_6.add 3) = some (Sl.toV v_23)) ∧
                 appendS 1 1 v_23 (⟨some a_63, 1, 1⟩ : Sl) h0u114 fun v_85 h0u115 =>
                 (cell? h0u115 t0u1 = some (Value.pointer v_15)) ∧
                 (cell? h0u115 t0u1 = some (Value.pointer v_16)) ∧
                 (cell? h0u115 t0u1 = some (Value.pointer v_17)) ∧
                 nilChk v_15 fun a_70 =>
                 Lift.store (a_70.add 1) (Sl.toV v_83) h0u115 fun h0u116 =>
                 (cell? h0u116 t0u1 = some (Value.pointer v_16)) ∧
                 (cell? h0u116 t0u1 = some (Value.pointer v_17)) ∧
                 nilChk v_16 fun a_71 =>
                 Lift.store (a_71.add 2) (Sl.toV v_84) h0u116 fun h0u117 =>
                 (cell? h0u117 t0u1 = some (Value.pointer v_17)) ∧
                 nilChk v_17 fun a_72 =>
                 Lift.store (a_72.add 3) (Sl.toV v_85) h0u117 fun h0u118 =>
                 K0u5 () h0u118
                )
               ) ∧ (
                new [Value.int .i64 v_5] h0u103 fun a_73 h0u119 =>
                (cell? h0u119 t0u1 = some (Value.pointer v_15)) ∧
                (cell? h0u119 t0u1 = some (Value.pointer v_16)) ∧
                (cell? h0u119 t0u1 = some (Value.pointer v_17)) ∧
                (cell? h0u119 t0u1 = some (Value.pointer v_18)) ∧
                (cell? h0u119 (a_4.add 1) = some (Sl.toV v_19)) ∧
                (cell? h0u119 t0u1 = some (Value.pointer v_20)) ∧
                (cell? h0u119 (a_5.add 2) = some (Sl.toV v_21)) ∧
                (cell? h0u119 t0u1 = some (Value.pointer v_22)) ∧
                (cell? h0u119 (a_6.add 3) = some (Sl.toV v_23)) ∧
                new [Value.int .i64 n.1, Value.int .i64 n.2.1, Sl.toV v_10, Value.bool n.2.2.2.1, Sl.toV n.2.2.2.2.1, Sl.toV n.2.2.2.2.2] h0u119 fun a_74 h0u120 =>
                (cell? h0u120 t0u1 = some (Value.pointer v_15)) ∧
                (cell? h0u120 t0u1 = some (Value.pointer v_16)) ∧
                (cell? h0u120 t0u1 = some (Value.pointer v_17)) ∧
                (cell? h0u120 t0u1 = some (Value.pointer v_18)) ∧
                (cell? h0u120 (a_4.add 1) = some (Sl.toV v_19)) ∧
                (cell? h0u120 t0u1 = some (Value.pointer v_20)) ∧
                (cell? h0u120 (a_5.add 2) = some (Sl.toV v_21)) ∧
                (cell? h0u120 t0u1 = some (Value.pointer v_22)) ∧
                (cell? h0u120 (a_6.add 3) = some (Sl.toV v_23)) ∧
                appendS 6 96 v_19 (⟨some a_74, 1, 1⟩ : Sl) h0u120 fun v_88 h0u121 =>
                (cell? h0u121 t0u1 = some (Value.pointer v_15)) ∧
                (cell? h0u121 t0u1 = some (Value.pointer v_16)) ∧
                (cell? h0u121 t0u1 = some (Value.pointer v_17)) ∧
                (cell? h0u121 t0u1 = some (Value.pointer v_20)) ∧
                (cell? h0u121 (a_5.add 2) = some (Sl.toV v_21)) ∧
                (cell? h0u121 t0u1 = some (Value.pointer v_22)) ∧
                (cell? h0u121 (a_6.add 3) = some (Sl.toV v_23)) ∧
                appendS 1 8 v_21 (⟨some a_73, 1, 1⟩ : Sl) h0u121 fun v_89 h0u122 =>
                (cell? h0u122 t0u1 = some (Value.pointer v_15)) ∧
                (cell? h0u122 t0u1 = some (Value.pointer v_16)) ∧
                (cell? h0u122 t0u1 = some (Value.pointer v_17)) ∧
                (cell? h0u122 t0u1 = some (Value.pointer v_22)) ∧
                (cell? h0u122 (a_6.add 3) = some (Sl.toV v_23)) ∧
                appendS 1 1 v_23 (⟨some a_63, 1, 1⟩ : Sl) h0u122 fun v_90 h0u123 =>
                (cell? h0u123 t0u1 = some (Value.pointer v_15)) ∧
                (cell? h0u123 t0u1 = some (Value.pointer v_16)) ∧
                (cell? h0u123 t0u1 = some (Value.pointer v_17)) ∧
                nilChk v_15 fun a_75 =>
                Lift.store (a_75.add 1) (Sl.toV v_88) h0u123 fun h0u124 =>
                (cell? h0u124 t0u1 = some (Value.pointer v_16)) ∧
                (cell? h0u124 t0u1 = some (Value.pointer v_17)) ∧
                nilChk v_16 fun a_76 =>
                Lift.store (a_76.add 2) (Sl.toV v_89) h0u124 fun h0u125 =>
                (cell? h0u125 t0u1 = some (Value.pointer v_17)) ∧
                nilChk v_17 fun a_77 =>
                Lift.store (a_77.add 3) (Sl.toV v_90) h0u125 fun h0u126 =>
                K0u5 () h0u126
               )
              )
             ) (fun t0u6 h0u14 =>
              Lift.load Value.pointer t0u1 h0u14 fun v_91 =>
              nilChk v_91 fun a_78 =>
              Lift.load Sl.toV (a_78.add 1) h0u14 fun v_92 =>
              Q (IntKind.wrap .i64 (((v_92.len : Nat) : Int) - 1), 0) h0u14
             )
            )
           ) (t0u4, 0) h0u11
          )
         )
        )
       )
      )
     )
    )
   )
  )

def term_Terms_Sort (t0 : (Option Addr)) (at0 : Int) (h : Heap) (Q : Int → Heap → Prop) : Prop :=
  term_Terms_there t0 at0 h fun v h0 =>
  iteB (!v) (
   Q 0 h0
  ) (
   nilChk t0 fun a =>
   Lift.load Sl.toV (a.add 2) h0 fun v_1 =>
   idxS v_1 at0 1 fun a_1 =>
   Lift.load (Value.int .i64) a_1 h0 fun v_2 =>
   Q v_2 h0
  )

def law09uspeaks (h : Heap) (Q : Bool → Heap → Prop) : Prop :=
  term_New 0 2 h fun v h0 =>
  term_Terms_Add v (4, 0, Sl.nil, false, Sl.nil, Sl.nil) h0 fun v_1 h0u1 =>
  term_Terms_Add v (4, 1, Sl.nil, false, Sl.nil, Sl.nil) h0u1 fun v_2 h0u2 =>
  new [Value.int .i64 v_1.1, Value.int .i64 v_2.1] h0u2 fun a h0u3 =>
  term_Terms_Add v (20, 0, (⟨some a, 2, 2⟩ : Sl), false, Sl.nil, Sl.nil) h0u3 fun v_4 h0u4 =>
  seq (fun (K0 : Bool → Heap → Prop) =>
   iteB (v_1.2 == 0) (
    iteB (v_2.2 == 0) (
     iteB (v_4.2 == 16) (
      term_Terms_Sort v v_2.1 h0u4 fun v_5 h0u6 =>
      K0 (v_5 == 2) h0u6
     ) (
      K0 false h0u4
     )
    ) (
     K0 false h0u4
    )
   ) (
    K0 false h0u4
   )
  ) (fun t0 h0u5 =>
   Q t0 h0u5
  )

def term_Terms_Grow (t0 : (Option Addr)) (sort : Int) (h : Heap) (Q : Int → Heap → Prop) : Prop :=
  nilChk t0 fun a =>
  Lift.load Value.map (a.add 0) h fun v =>
  lookM .i64 (Value.int .i64) 0 v sort h fun v_1 =>
  iteB (!v_1.2) (
   Q (-1) h
  ) (
   nilChk t0 fun a_1 =>
   Lift.load Value.map (a_1.add 0) h fun v_2 =>
   lookM .i64 (Value.int .i64) 0 v_2 sort h fun v_3 =>
   setM .i64 (Value.int .i64) v_2 sort (IntKind.wrap .i64 (v_3.1 + 1)) h fun h0 =>
   Q v_1.1 h0
  )

def law09uTermGrows (bools : Int) (reals : Int) (sorts : Sl) (h : Heap) (Q : Bool → Heap → Prop) : Prop :=
  law09uspeaks h fun v h0 =>
  iteB (!v) (
   Q false h0
  ) (
   seq (fun (K0 : Bool → Heap → Prop) =>
    iteB (decide (((sorts.len : Nat) : Int) > 60)) (
     K0 true h0
    ) (
     iteB (decide (bools < 0)) (
      K0 true h0
     ) (
      iteB (decide (reals < 0)) (
       K0 true h0
      ) (
       iteB (decide (bools > 1000)) (
        K0 true h0
       ) (
        K0 (decide (reals > 1000)) h0
       )
      )
     )
    )
   ) (fun t0 h0u1 =>
    iteB t0 (
     Q true h0u1
    ) (
     term_New bools reals h0u1 fun v_1 h0u2 =>
     newM h0u2 fun v_2 h0u3 =>
     setM .i64 (Value.int .i64) v_2 1 bools h0u3 fun h0u4 =>
     setM .i64 (Value.int .i64) v_2 2 reals h0u4 fun h0u5 =>
     newM h0u5 fun v_3 h0u6 =>
     setM .i64 (Value.int .i64) v_3 1 3 h0u6 fun h0u7 =>
     setM .i64 (Value.int .i64) v_3 2 4 h0u7 fun h0u8 =>
     loop (fun (s0 : Int) h0u9 (K0u1 : Int → Heap → Prop) =>
      iteB (decide (s0 < ((sorts.len : Nat) : Int))) (
       seq (fun (K0u2 : Unit → Heap → Prop) =>
        idxS sorts s0 1 fun a =>
        Lift.load (Value.int .i64) a h0u9 fun v_4 =>
        lookM .i64 (Value.int .i64) 0 v_3 v_4 h0u9 fun v_5 =>
        iteB (!v_5.2) (
         term_Terms_Grow v_1 v_4 h0u9 fun v_6 h0u11 =>
         iteB (v_6 != (-1)) (
          Q false h0u11
         ) (
          K0u2 () h0u11
         )
        ) (
         lookM .i64 (Value.int .i64) 0 v_2 v_4 h0u9 fun v_7 =>
         term_Terms_Add v_1 (v_5.1, v_7.1, Sl.nil, false, Sl.nil, Sl.nil) h0u9 fun v_8 h0u12 =>
         term_Terms_Grow v_1 v_4 h0u12 fun v_9 h0u13 =>
         lookM .i64 (Value.int .i64) 0 v_2 v_4 h0u13 fun v_10 =>
         term_Terms_Add v_1 (v_5.1, v_10.1, Sl.nil, false, Sl.nil, Sl.nil) h0u13 fun v_11 h0u14 =>
         seq (fun (K0u3 : Bool → Heap → Prop) =>
          iteB (v_8.2 != 1) (
           K0u3 true h0u14
          ) (
           lookM .i64 (Value.int .i64) 0 v_2 v_4 h0u14 fun v_12 =>
           iteB (v_9 != v_12.1) (
            K0u3 true h0u14
           ) (
            iteB (v_11.2 != 0) (
             K0u3 true h0u14
            ) (
             term_Terms_Sort v_1 v_11.1 h0u14 fun v_13 h0u16 =>
             K0u3 (v_13 != v_4) h0u16
            )
           )
          )
         ) (fun t0u2 h0u15 =>
          iteB t0u2 (
           Q false h0u15
          ) (
           lookM .i64 (Value.int .i64) 0 v_2 v_4 h0u15 fun v_14 =>
           setM .i64 (Value.int .i64) v_2 v_4 (IntKind.wrap .i64 (v_14.1 + 1)) h0u15 fun h0u17 =>
           K0u2 () h0u17
          )
         )
        )
       ) (fun t0u1 h0u10 =>
        K0u1 (IntKind.wrap .i64 (s0 + 1)) h0u10
       )
      ) (
       Q true h0u9
      )
     ) 0 h0u8
    )
   )
  )

def law02uGreat (l : Sl) (h : Heap) (Q : Bool → Heap → Prop) : Prop :=
  loop (fun (s0 : Int) h0 (K0 : Int → Heap → Prop) =>
   iteB (decide (s0 < ((l.len : Nat) : Int))) (
    idxS l s0 3 fun a =>
    loadS C_bool_sl_sl 3 a h0 fun v =>
    mem h0 fun h0u1 =>
    seq (fun (K0u1 : Bool → Heap → Prop) =>
     iteB (decide (((v.2.1.len : Nat) : Int) > 6)) (
      K0u1 true h0u1
     ) (
      K0u1 (decide (((v.2.2.len : Nat) : Int) > 6)) h0u1
     )
    ) (fun t0 h0u2 =>
     iteB t0 (
      Q true h0u2
     ) (
      K0 (IntKind.wrap .i64 (s0 + 1)) h0u2
     )
    )
   ) (
    Q false h0
   )
  ) 0 h

def law09uGreat (l : Sl) (h : Heap) (Q : Bool → Heap → Prop) : Prop :=
  iteB (decide (((l.len : Nat) : Int) > 40)) (
   Q true h
  ) (
   loop (fun (s0 : Int) h0 (K0 : Int → Heap → Prop) =>
    iteB (decide (s0 < ((l.len : Nat) : Int))) (
     idxS l s0 6 fun a =>
     loadS C_i64ui64usl_bool_sl_sl 6 a h0 fun v =>
     mem h0 fun h0u1 =>
     seq (fun (K0u1 : Bool → Heap → Prop) =>
      iteB (decide (((v.2.2.1.len : Nat) : Int) > 12)) (
       K0u1 true h0u1
      ) (
       new [Value.bool v.2.2.2.1, Sl.toV v.2.2.2.2.1, Sl.toV v.2.2.2.2.2] h0u1 fun a_1 h0u3 =>
       law02uGreat (⟨some a_1, 1, 1⟩ : Sl) h0u3 fun v_2 h0u4 =>
       K0u1 v_2 h0u4
      )
     ) (fun t0 h0u2 =>
      iteB t0 (
       Q true h0u2
      ) (
       K0 (IntKind.wrap .i64 (s0 + 1)) h0u2
      )
     )
    ) (
     Q false h0
    )
   ) 0 h
  )

def term_Right (nodes : Sl) (bools : Int) (reals : Int) (h : Heap) (Q : Bool → Heap → Prop) : Prop :=
  term_New bools reals h fun v h0 =>
  loop (fun (s0 : Int) h0u1 (K0 : Int → Heap → Prop) =>
   iteB (decide (s0 < ((nodes.len : Nat) : Int))) (
    idxS nodes s0 6 fun a =>
    loadS C_i64ui64usl_bool_sl_sl 6 a h0u1 fun v_1 =>
    mem h0u1 fun h0u2 =>
    term_Terms_Add v (v_1.1, v_1.2.1, v_1.2.2.1, v_1.2.2.2.1, v_1.2.2.2.2.1, v_1.2.2.2.2.2) h0u2 fun v_2 h0u3 =>
    iteB (v_2.2 != 0) (
     Q false h0u3
    ) (
     K0 (IntKind.wrap .i64 (s0 + 1)) h0u3
    )
   ) (
    Q true h0u1
   )
  ) 0 h0

def term_Terms_Ground (t0 : (Option Addr)) (at0 : Int) (h : Heap) (Q : Bool → Heap → Prop) : Prop :=
  seq (fun (K0 : Bool → Heap → Prop) =>
   term_Terms_there t0 at0 h fun v h0u1 =>
   iteB v (
    nilChk t0 fun a =>
    Lift.load Sl.toV (a.add 3) h0u1 fun v_1 =>
    idxS v_1 at0 1 fun a_1 =>
    Lift.load Value.bool a_1 h0u1 fun v_2 =>
    K0 v_2 h0u1
   ) (
    K0 false h0u1
   )
  ) (fun t0u1 h0 =>
   Q t0u1 h0
  )

def law09uTermBeginnings (bools : Int) (reals : Int) (list : Sl) (cut : Int) (h : Heap) (Q : Bool → Heap → Prop) : Prop :=
  law09uspeaks h fun v h0 =>
  iteB (!v) (
   Q false h0
  ) (
   seq (fun (K0 : Bool → Heap → Prop) =>
    law09uGreat list h0 fun v_1 h0u2 =>
    iteB v_1 (
     K0 true h0u2
    ) (
     iteB (decide (bools < 0)) (
      K0 true h0u2
     ) (
      iteB (decide (reals < 0)) (
       K0 true h0u2
      ) (
       iteB (decide (bools > 1000)) (
        K0 true h0u2
       ) (
        iteB (decide (reals > 1000)) (
         K0 true h0u2
        ) (
         term_Right list bools reals h0u2 fun v_2 h0u3 =>
         K0 (!v_2) h0u3
        )
       )
      )
     )
    )
   ) (fun t0 h0u1 =>
    iteB t0 (
     Q true h0u1
    ) (
     seq (fun (K0u1 : Bool → Heap → Prop) =>
      ((IntKind.wrap .i64 (((list.len : Nat) : Int) + 1)) ≠ 0) ∧
      sliceOf list none (some (Int.tmod (IntKind.wrap .i64 (((BitVec.ofInt (IntKind.bits .i64) cut &&& BitVec.ofInt (IntKind.bits .i64) 65535).toNat : Int))) (IntKind.wrap .i64 (((list.len : Nat) : Int) + 1)))) none 6 fun v_3 =>
      term_Right v_3 bools reals h0u1 fun v_4 h0u5 =>
      iteB (!v_4) (
       K0u1 true h0u5
      ) (
       term_Right list (IntKind.wrap .i64 (bools + 1)) (IntKind.wrap .i64 (reals + 2)) h0u5 fun v_5 h0u6 =>
       K0u1 (!v_5) h0u6
      )
     ) (fun t0u1 h0u4 =>
      iteB t0u1 (
       Q false h0u4
      ) (
       term_New bools reals h0u4 fun v_6 h0u7 =>
       loop (fun (s0 : Int) h0u8 (K0u2 : Int → Heap → Prop) =>
        iteB (decide (s0 < ((list.len : Nat) : Int))) (
         seq (fun (K0u3 : Unit → Heap → Prop) =>
          idxS list s0 6 fun a =>
          loadS C_i64ui64usl_bool_sl_sl 6 a h0u8 fun v_7 =>
          mem h0u8 fun h0u10 =>
          term_Terms_Add v_6 (v_7.1, v_7.2.1, v_7.2.2.1, v_7.2.2.2.1, v_7.2.2.2.2.1, v_7.2.2.2.2.2) h0u10 fun v_8 h0u11 =>
          seq (fun (K0u4 : Bool → Heap → Prop) =>
           iteB (v_8.2 != 0) (
            K0u4 true h0u11
           ) (
            K0u4 (v_8.1 != s0) h0u11
           )
          ) (fun t0u3 h0u12 =>
           iteB t0u3 (
            Q false h0u12
           ) (
            term_Terms_Ground v_6 s0 h0u12 fun v_9 h0u13 =>
            iteB (!v_9) (
             K0u3 () h0u13
            ) (
             term_Terms_Sort v_6 s0 h0u13 fun v_10 h0u14 =>
             iteB (v_10 != 2) (
              Q false h0u14
             ) (
              loop (fun (s0u1 : Int) h0u15 (K0u5 : Int → Heap → Prop) =>
               iteB (decide (s0u1 < ((v_7.2.2.1.len : Nat) : Int))) (
                idxS v_7.2.2.1 s0u1 1 fun a_1 =>
                Lift.load (Value.int .i64) a_1 h0u15 fun v_11 =>
                term_Terms_Ground v_6 v_11 h0u15 fun v_12 h0u16 =>
                iteB (!v_12) (
                 Q false h0u16
                ) (
                 K0u5 (IntKind.wrap .i64 (s0u1 + 1)) h0u16
                )
               ) (
                K0u3 () h0u15
               )
              ) 0 h0u14
             )
            )
           )
          )
         ) (fun t0u2 h0u9 =>
          K0u2 (IntKind.wrap .i64 (s0 + 1)) h0u9
         )
        ) (
         Q true h0u8
        )
       ) 0 h0u7
      )
     )
    )
   )
  )
def C_bool_sl (x : Bool × Sl) : List Value := [Value.bool x.1, Sl.toV x.2]
abbrev g_internal_bytealg_MaxLen : Nat := 0
def internal_stringslite_IndexByte (s0 : ByteArray) (c : Int) (h : Heap) (Q : Int → Heap → Prop) : Prop :=
  extIndexByte s0 c h fun v h0 =>
  Q v h0
def internal_bytealg_Cutover (n : Int) (h : Heap) (Q : Int → Heap → Prop) : Prop :=
  Q (IntKind.wrap .i64 (Int.tdiv (IntKind.wrap .i64 (n + 16)) 8)) h
def internal_bytealg_hashStr_string (sep : ByteArray) (h : Heap) (Q : (Int × Int) → Heap → Prop) : Prop :=
  loop (fun (s0 : Int × Int) h0 (K0 : (Int × Int) → Heap → Prop) =>
   iteB (decide (s0.2 < ((sep.size : Nat) : Int))) (
    idxStr sep s0.2 fun v =>
    Let (IntKind.wrap .u32 ((IntKind.wrap .u32 (s0.1 * 16777619)) + (IntKind.wrap .u32 v)) : Int) fun hash =>
    Let (IntKind.wrap .i64 (s0.2 + 1) : Int) fun i =>
    K0 (hash, i) h0
   ) (
    Let (((sep.size : Nat) : Int) : Int) fun i_1 =>
    loop (fun (s0u1 : Int × Int × Int) h0u1 (K0u1 : (Int × Int × Int) → Heap → Prop) =>
     iteB (decide (s0u1.2.2 > 0)) (
      seq (fun (K0u2 : Int → Heap → Prop) =>
       iteB ((IntKind.wrap .i64 (((BitVec.ofInt (IntKind.bits .i64) s0u1.2.2 &&& BitVec.ofInt (IntKind.bits .i64) 1).toNat : Int))) != 0) (
        Let (IntKind.wrap .u32 (s0u1.1 * s0u1.2.1) : Int) fun pow =>
        K0u2 pow h0u1
       ) (
        K0u2 s0u1.1 h0u1
       )
      ) (fun t0 h0u2 =>
       Let (IntKind.wrap .u32 (s0u1.2.1 * s0u1.2.1) : Int) fun sq =>
       Let (Int.fdiv s0u1.2.2 (2 ^ (min (Int.toNat 1) (IntKind.bits .i64))) : Int) fun i_2 =>
       K0u1 (t0, sq, i_2) h0u2
      )
     ) (
      Q (s0.1, s0u1.1) h0u1
     )
    ) (1, 16777619, i_1) h0
   )
  ) (0, 0) h
def internal_bytealg_IndexRabinKarp_string (s0 : ByteArray) (sep : ByteArray) (h : Heap) (Q : Int → Heap → Prop) : Prop :=
  internal_bytealg_hashStr_string sep h fun v h0 =>
  Let (((sep.size : Nat) : Int) : Int) fun n =>
  loop (fun (s0u1 : Int × Int) h0u1 (K0 : (Int × Int) → Heap → Prop) =>
   iteB (decide (s0u1.2 < n)) (
    idxStr s0 s0u1.2 fun v_1 =>
    Let (IntKind.wrap .u32 ((IntKind.wrap .u32 (s0u1.1 * 16777619)) + (IntKind.wrap .u32 v_1)) : Int) fun h0u2 =>
    Let (IntKind.wrap .i64 (s0u1.2 + 1) : Int) fun i =>
    K0 (h0u2, i) h0u1
   ) (
    seq (fun (K0u1 : Bool → Heap → Prop) =>
     iteB (s0u1.1 == v.1) (
      sliceStr s0 none (some n) fun v_2 =>
      K0u1 (v_2.toList == sep.toList) h0u1
     ) (
      K0u1 false h0u1
     )
    ) (fun t0 h0u3 =>
     iteB t0 (
      Q 0 h0u3
     ) (
      loop (fun (s0u2 : Int × Int) h0u4 (K0u2 : (Int × Int) → Heap → Prop) =>
       iteB (decide (s0u2.2 < ((s0.size : Nat) : Int))) (
        Let (IntKind.wrap .u32 (s0u2.1 * 16777619) : Int) fun h0u5 =>
        idxStr s0 s0u2.2 fun v_3 =>
        Let (IntKind.wrap .u32 (h0u5 + (IntKind.wrap .u32 v_3)) : Int) fun h0u6 =>
        idxStr s0 (IntKind.wrap .i64 (s0u2.2 - n)) fun v_4 =>
        Let (IntKind.wrap .u32 (h0u6 - (IntKind.wrap .u32 (v.2 * (IntKind.wrap .u32 v_4)))) : Int) fun h0u7 =>
        Let (IntKind.wrap .i64 (s0u2.2 + 1) : Int) fun i_1 =>
        seq (fun (K0u3 : Bool → Heap → Prop) =>
         iteB (h0u7 == v.1) (
          sliceStr s0 (some (IntKind.wrap .i64 (i_1 - n))) (some i_1) fun v_5 =>
          K0u3 (v_5.toList == sep.toList) h0u4
         ) (
          K0u3 false h0u4
         )
        ) (fun t0u1 h0u8 =>
         iteB t0u1 (
          Q (IntKind.wrap .i64 (i_1 - n)) h0u8
         ) (
          K0u2 (h0u7, i_1) h0u8
         )
        )
       ) (
        Q (-1) h0u4
       )
      ) (s0u1.1, n) h0u3
     )
    )
   )
  ) (0, 0) h0
def internal_stringslite_Index (s0 : ByteArray) (substr : ByteArray) (h : Heap) (Q : Int → Heap → Prop) : Prop :=
  Let (((substr.size : Nat) : Int) : Int) fun n =>
  seq (fun (K0 : Bool → Heap → Prop) =>
   iteB (n == 0) (
    K0 true h
   ) (
    K0 (substr.toList == s0.toList) h
   )
  ) (fun t0 h0 =>
   iteB t0 (
    Q 0 h0
   ) (
    iteB (n == 1) (
     idxStr substr 0 fun v =>
     internal_stringslite_IndexByte s0 v h0 fun v_1 h0u1 =>
     Q v_1 h0u1
    ) (
     iteB (decide (n ≥ ((s0.size : Nat) : Int))) (
      Q (-1) h0
     ) (
      seq (fun (K0u1 : Bool → Heap → Prop) =>
       Lift.load (Value.int .i64) (⟨g_internal_bytealg_MaxLen, 0, none⟩ : Addr) h0 fun v_2 =>
       iteB (decide (n ≤ v_2)) (
        K0u1 (decide (((s0.size : Nat) : Int) ≤ 64)) h0
       ) (
        K0u1 false h0
       )
      ) (fun t0u1 h0u2 =>
       iteB t0u1 (
        False
       ) (
        idxStr substr 0 fun v_3 =>
        idxStr substr 1 fun v_4 =>
        Let (IntKind.wrap .i64 ((IntKind.wrap .i64 (((s0.size : Nat) : Int) - n)) + 1) : Int) fun t0u2 =>
        loop (fun (s0u1 : Int × Int) h0u3 (K0u2 : (Int × Int) → Heap → Prop) =>
         iteB (decide (s0u1.1 < t0u2)) (
          seq (fun (K0u3 : Int → Heap → Prop) =>
           idxStr s0 s0u1.1 fun v_5 =>
           iteB (v_5 != v_3) (
            sliceStr s0 (some (IntKind.wrap .i64 (s0u1.1 + 1))) (some t0u2) fun v_6 =>
            internal_stringslite_IndexByte v_6 v_3 h0u3 fun v_7 h0u5 =>
            iteB (decide (v_7 < 0)) (
             Q (-1) h0u5
            ) (
             Let (IntKind.wrap .i64 (s0u1.1 + (IntKind.wrap .i64 (v_7 + 1))) : Int) fun i =>
             K0u3 i h0u5
            )
           ) (
            K0u3 s0u1.1 h0u3
           )
          ) (fun t0u3 h0u4 =>
           seq (fun (K0u4 : Bool → Heap → Prop) =>
            idxStr s0 (IntKind.wrap .i64 (t0u3 + 1)) fun v_8 =>
            iteB (v_8 == v_4) (
             sliceStr s0 (some t0u3) (some (IntKind.wrap .i64 (t0u3 + n))) fun v_9 =>
             K0u4 (v_9.toList == substr.toList) h0u4
            ) (
             K0u4 false h0u4
            )
           ) (fun t0u4 h0u6 =>
            iteB t0u4 (
             Q t0u3 h0u6
            ) (
             Let (IntKind.wrap .i64 (t0u3 + 1) : Int) fun i_1 =>
             Let (IntKind.wrap .i64 (s0u1.2 + 1) : Int) fun fails =>
             seq (fun (K0u5 : Bool → Heap → Prop) =>
              Lift.load (Value.int .i64) (⟨g_internal_bytealg_MaxLen, 0, none⟩ : Addr) h0u6 fun v_10 =>
              iteB (decide (n ≤ v_10)) (
               internal_bytealg_Cutover i_1 h0u6 fun v_11 h0u8 =>
               K0u5 (decide (fails > v_11)) h0u8
              ) (
               K0u5 false h0u6
              )
             ) (fun t0u5 h0u7 =>
              iteB t0u5 (
               sliceStr s0 (some i_1) none fun v_12 =>
               False
              ) (
               seq (fun (K0u6 : Bool → Heap → Prop) =>
                Lift.load (Value.int .i64) (⟨g_internal_bytealg_MaxLen, 0, none⟩ : Addr) h0u7 fun v_13 =>
                iteB (decide (n > v_13)) (
                 iteB (decide (fails ≥ (IntKind.wrap .i64 (4 + (Int.fdiv i_1 (2 ^ (min (Int.toNat 4) (IntKind.bits .i64)))))))) (
                  K0u6 (decide (i_1 < t0u2)) h0u7
                 ) (
                  K0u6 false h0u7
                 )
                ) (
                 K0u6 false h0u7
                )
               ) (fun t0u6 h0u9 =>
                iteB t0u6 (
                 sliceStr s0 (some i_1) none fun v_14 =>
                 internal_bytealg_IndexRabinKarp_string v_14 substr h0u9 fun v_15 h0u10 =>
                 iteB (decide (v_15 < 0)) (
                  Q (-1) h0u10
                 ) (
                  Q (IntKind.wrap .i64 (i_1 + v_15)) h0u10
                 )
                ) (
                 K0u2 (i_1, fails) h0u9
                )
               )
              )
             )
            )
           )
          )
         ) (
          Q (-1) h0u3
         )
        ) (0, 0) h0u2
       )
      )
     )
    )
   )
  )
def internal_stringslite_Cut (s0 : ByteArray) (sep : ByteArray) (h : Heap) (Q : (ByteArray × ByteArray × Bool) → Heap → Prop) : Prop :=
  Let ((ByteArray.mk #[]) : ByteArray) fun before =>
  Let ((ByteArray.mk #[]) : ByteArray) fun after =>
  internal_stringslite_Index s0 sep h fun v h0 =>
  iteB (decide (v ≥ 0)) (
   sliceStr s0 none (some v) fun v_1 =>
   sliceStr s0 (some (IntKind.wrap .i64 (v + ((sep.size : Nat) : Int)))) none fun v_2 =>
   Q (v_1, v_2, true) h0
  ) (
   Let ((ByteArray.mk #[]) : ByteArray) fun after_1 =>
   Q (s0, after_1, false) h0
  )
def strings_Cut (s0 : ByteArray) (sep : ByteArray) (h : Heap) (Q : (ByteArray × ByteArray × Bool) → Heap → Prop) : Prop :=
  Let ((ByteArray.mk #[]) : ByteArray) fun before =>
  Let ((ByteArray.mk #[]) : ByteArray) fun after =>
  internal_stringslite_Cut s0 sep h fun v h0 =>
  Q (v.1, v.2.1, v.2.2) h0
def nat_Bench_Over (b : (Option Addr)) (h : Heap) (Q : Bool → Heap → Prop) : Prop :=
  nilChk b fun a =>
  Lift.load Value.bool (a.add 1) h fun v =>
  Q v h
def nat_Bench_Mul (b : (Option Addr)) (x0 : Sl) (y : Sl) (h : Heap) (Q : Sl → Heap → Prop) : Prop :=
  nat_trim x0 h fun v h0 =>
  nat_trim y h0 fun v_1 h0u1 =>
  nat_times v v_1 h0u1 fun v_2 h0u2 =>
  nat_Bench_fit b v_2 h0u2 fun v_3 h0u3 =>
  Q v_3 h0u3
def nat_plus (x0 : Sl) (y : Sl) (h : Heap) (Q : Sl → Heap → Prop) : Prop :=
  loop (fun (s0 : Sl × Int × Int) h0 (K0 : (Sl × Int × Int) → Heap → Prop) =>
   iteB (decide (s0.2.2 < (if ((y.len : Nat) : Int) > ((x0.len : Nat) : Int) then ((y.len : Nat) : Int) else ((x0.len : Nat) : Int)))) (
    loop (fun (s0u1 : Int × Int) h0u1 (K0u1 : (Int × Int) → Heap → Prop) =>
     iteB (decide (s0u1.2 < 2)) (
      seq (fun (K0u2 : Int → Heap → Prop) =>
       idxV Sl.toV [Sl.toV x0, Sl.toV y] 2 s0u1.2 1 fun v =>
       iteB (decide (s0.2.2 < ((v.len : Nat) : Int))) (
        idxS v s0.2.2 1 fun a =>
        Lift.load (Value.int .u32) a h0u1 fun v_1 =>
        Let (IntKind.wrap .u64 (s0u1.1 + (IntKind.wrap .u64 v_1)) : Int) fun carry =>
        K0u2 carry h0u1
       ) (
        K0u2 s0u1.1 h0u1
       )
      ) (fun t0 h0u2 =>
       K0u1 (t0, IntKind.wrap .i64 (s0u1.2 + 1)) h0u2
      )
     ) (
      new [Value.int .u32 (IntKind.wrap .u32 s0u1.1)] h0u1 fun a_1 h0u3 =>
      appendS 1 4 s0.1 (⟨some a_1, 1, 1⟩ : Sl) h0u3 fun v_3 h0u4 =>
      Let (Int.fdiv s0u1.1 (2 ^ (min (Int.toNat 32) (IntKind.bits .u64))) : Int) fun carry_1 =>
      K0 (v_3, carry_1, IntKind.wrap .i64 (s0.2.2 + 1)) h0u4
     )
    ) (s0.2.1, 0) h0
   ) (
    new [Value.int .u32 (IntKind.wrap .u32 s0.2.1)] h0 fun a_2 h0u5 =>
    appendS 1 4 s0.1 (⟨some a_2, 1, 1⟩ : Sl) h0u5 fun v_5 h0u6 =>
    Q v_5 h0u6
   )
  ) (Sl.nil, 0, 0) h
def nat_Bench_Add (b : (Option Addr)) (x0 : Sl) (y : Sl) (h : Heap) (Q : Sl → Heap → Prop) : Prop :=
  nat_plus x0 y h fun v h0 =>
  nat_Bench_fit b v h0 fun v_1 h0u1 =>
  Q v_1 h0u1
def nat_Bench_Parse (b : (Option Addr)) (s0 : ByteArray) (h : Heap) (Q : (Sl × Bool) → Heap → Prop) : Prop :=
  seq (fun (K0 : Bool → Heap → Prop) =>
   iteB (((s0.size : Nat) : Int) == 0) (
    K0 true h
   ) (
    K0 (decide (((s0.size : Nat) : Int) > 10000)) h
   )
  ) (fun t0 h0 =>
   iteB t0 (
    Q (Sl.nil, false) h0
   ) (
    loop (fun (s0u1 : Int) h0u1 (K0u1 : Int → Heap → Prop) =>
     iteB (decide (s0u1 < ((s0.size : Nat) : Int))) (
      seq (fun (K0u2 : Bool → Heap → Prop) =>
       idxStr s0 s0u1 fun v =>
       iteB (decide (v < 48)) (
        K0u2 true h0u1
       ) (
        idxStr s0 s0u1 fun v_1 =>
        K0u2 (decide (v_1 > 57)) h0u1
       )
      ) (fun t0u1 h0u2 =>
       iteB t0u1 (
        Q (Sl.nil, false) h0u2
       ) (
        K0u1 (IntKind.wrap .i64 (s0u1 + 1)) h0u2
       )
      )
     ) (
      loop (fun (s0u2 : Sl × Int) h0u3 (K0u3 : (Sl × Int) → Heap → Prop) =>
       iteB (decide (s0u2.2 < ((s0.size : Nat) : Int))) (
        seq (fun (K0u4 : Sl → Heap → Prop) =>
         idxStr s0 s0u2.2 fun v_2 =>
         (
          new [Value.int .u32 10] h0u3 fun a h0u5 =>
          (
           nat_Bench_Mul b s0u2.1 (⟨some a, 1, 1⟩ : Sl) h0u5 fun v_4 h0u6 =>
           new [Value.int .u32 (IntKind.wrap .u32 (IntKind.wrap .u8 (v_2 - 48)))] h0u6 fun a_1 h0u7 =>
           nat_Bench_Add b v_4 (⟨some a_1, 1, 1⟩ : Sl) h0u7 fun v_6 h0u8 =>
           K0u4 v_6 h0u8
          ) ∧ (
           new [Value.int .u32 (IntKind.wrap .u32 (IntKind.wrap .u8 (v_2 - 48)))] h0u5 fun a_2 h0u9 =>
           nat_Bench_Mul b s0u2.1 (⟨some a, 1, 1⟩ : Sl) h0u9 fun v_8 h0u10 =>
           nat_Bench_Add b v_8 (⟨some a_2, 1, 1⟩ : Sl) h0u10 fun v_9 h0u11 =>
           K0u4 v_9 h0u11
          )
         ) ∧ (
          new [Value.int .u32 (IntKind.wrap .u32 (IntKind.wrap .u8 (v_2 - 48)))] h0u3 fun a_3 h0u12 =>
          new [Value.int .u32 10] h0u12 fun a_4 h0u13 =>
          nat_Bench_Mul b s0u2.1 (⟨some a_4, 1, 1⟩ : Sl) h0u13 fun v_12 h0u14 =>
          nat_Bench_Add b v_12 (⟨some a_3, 1, 1⟩ : Sl) h0u14 fun v_13 h0u15 =>
          K0u4 v_13 h0u15
         )
        ) (fun t0u2 h0u4 =>
         nilChk b fun a_5 =>
         Lift.load Value.bool (a_5.add 1) h0u4 fun v_14 =>
         iteB v_14 (
          Q (Sl.nil, false) h0u4
         ) (
          K0u3 (t0u2, IntKind.wrap .i64 (s0u2.2 + 1)) h0u4
         )
        )
       ) (
        nilChk b fun a_6 =>
        Lift.load Value.bool (a_6.add 1) h0u3 fun v_15 =>
        Q (s0u2.1, (!v_15)) h0u3
       )
      ) (Sl.nil, 0) h0u1
     )
    ) 0 h0
   )
  )
def math_bits_Mul32 (x0 : Int) (y : Int) (h : Heap) (Q : (Int × Int) → Heap → Prop) : Prop :=
  Let (IntKind.wrap .u64 ((IntKind.wrap .u64 x0) * (IntKind.wrap .u64 y)) : Int) fun tmp =>
  Let (IntKind.wrap .u32 (Int.fdiv tmp (2 ^ (min (Int.toNat 32) (IntKind.bits .u64)))) : Int) fun hi =>
  Let (IntKind.wrap .u32 tmp : Int) fun lo =>
  Q (hi, lo) h
def math_bits_Mul64 (x0 : Int) (y : Int) (h : Heap) (Q : (Int × Int) → Heap → Prop) : Prop :=
  Let (IntKind.wrap .u64 (((BitVec.ofInt (IntKind.bits .u64) x0 &&& BitVec.ofInt (IntKind.bits .u64) 4294967295).toNat : Int)) : Int) fun x0u1 =>
  Let (Int.fdiv x0 (2 ^ (min (Int.toNat 32) (IntKind.bits .u64))) : Int) fun x1 =>
  Let (IntKind.wrap .u64 (((BitVec.ofInt (IntKind.bits .u64) y &&& BitVec.ofInt (IntKind.bits .u64) 4294967295).toNat : Int)) : Int) fun y0 =>
  Let (Int.fdiv y (2 ^ (min (Int.toNat 32) (IntKind.bits .u64))) : Int) fun y1 =>
  Let (IntKind.wrap .u64 (x0u1 * y0) : Int) fun w0 =>
  Let (IntKind.wrap .u64 ((IntKind.wrap .u64 (x1 * y0)) + (Int.fdiv w0 (2 ^ (min (Int.toNat 32) (IntKind.bits .u64))))) : Int) fun t0 =>
  Let (IntKind.wrap .u64 (((BitVec.ofInt (IntKind.bits .u64) t0 &&& BitVec.ofInt (IntKind.bits .u64) 4294967295).toNat : Int)) : Int) fun w1 =>
  Let (Int.fdiv t0 (2 ^ (min (Int.toNat 32) (IntKind.bits .u64))) : Int) fun w2 =>
  Let (IntKind.wrap .u64 (w1 + (IntKind.wrap .u64 (x0u1 * y1))) : Int) fun w1u1 =>
  Let (IntKind.wrap .u64 ((IntKind.wrap .u64 ((IntKind.wrap .u64 (x1 * y1)) + w2)) + (Int.fdiv w1u1 (2 ^ (min (Int.toNat 32) (IntKind.bits .u64))))) : Int) fun hi =>
  Let (IntKind.wrap .u64 (x0 * y) : Int) fun lo =>
  Q (hi, lo) h
def math_bits_Mul (x0 : Int) (y : Int) (h : Heap) (Q : (Int × Int) → Heap → Prop) : Prop :=
  math_bits_Mul64 x0 y h fun v h0 =>
  Q (v.1, v.2) h0
def internal_stringslite_HasPrefix (s0 : ByteArray) (prefix0 : ByteArray) (h : Heap) (Q : Bool → Heap → Prop) : Prop :=
  seq (fun (K0 : Bool → Heap → Prop) =>
   iteB (decide (((s0.size : Nat) : Int) ≥ ((prefix0.size : Nat) : Int))) (
    sliceStr s0 none (some ((prefix0.size : Nat) : Int)) fun v =>
    K0 (v.toList == prefix0.toList) h
   ) (
    K0 false h
   )
  ) (fun t0 h0 =>
   Q t0 h0
  )
def strings_HasPrefix (s0 : ByteArray) (prefix0 : ByteArray) (h : Heap) (Q : Bool → Heap → Prop) : Prop :=
  internal_stringslite_HasPrefix s0 prefix0 h fun v h0 =>
  Q v h0
def strings_Builder_grow (b : (Option Addr)) (n : Int) (h : Heap) (Q : Unit → Heap → Prop) : Prop :=
  False
def strings_Builder_Grow (b : (Option Addr)) (n : Int) (h : Heap) (Q : Unit → Heap → Prop) : Prop :=
  False
def strings_Builder_WriteString (b : (Option Addr)) (s0 : ByteArray) (h : Heap) (Q : (Int × Value) → Heap → Prop) : Prop :=
  False
def strings_Builder_Len (b : (Option Addr)) (h : Heap) (Q : Int → Heap → Prop) : Prop :=
  nilChk b fun a =>
  Lift.load Sl.toV (a.add 1) h fun v =>
  Q ((v.len : Nat) : Int) h
def strings_Builder_String (b : (Option Addr)) (h : Heap) (Q : ByteArray → Heap → Prop) : Prop :=
  False
def strings_Repeat (s0 : ByteArray) (count : Int) (h : Heap) (Q : ByteArray → Heap → Prop) : Prop :=
  iteB (count == 0) (
   Q (ByteArray.mk #[]) h
  ) (
   iteB (count == 1) (
    Q s0 h
   ) (
    seq (fun (K0 : Unit → Heap → Prop) =>
     iteB (decide (count < 0)) (
      False
     ) (
      K0 () h
     )
    ) (fun t0 h0 =>
     math_bits_Mul (IntKind.wrap .u64 ((s0.size : Nat) : Int)) (IntKind.wrap .u64 count) h0 fun v h0u1 =>
     seq (fun (K0u1 : Unit → Heap → Prop) =>
      seq (fun (K0u2 : Bool → Heap → Prop) =>
       iteB (decide (v.1 > 0)) (
        K0u2 true h0u1
       ) (
        K0u2 (decide (v.2 > 9223372036854775807)) h0u1
       )
      ) (fun t0u2 h0u3 =>
       iteB t0u2 (
        False
       ) (
        K0u1 () h0u3
       )
      )
     ) (fun t0u1 h0u2 =>
      Let (IntKind.wrap .i64 v.2 : Int) fun n =>
      iteB (((s0.size : Nat) : Int) == 0) (
       Q (ByteArray.mk #[]) h0u2
      ) (
       seq (fun (K0u3 : Unit → Heap → Prop) =>
        idxStr s0 0 fun v_1 =>
        seq (fun (K0u4 : Bool → Heap → Prop) =>
         Let ((v_1 == 32) : Bool) fun t43 =>
         iteB t43 (
          K0u4 t43 h0u2
         ) (
          Let ((v_1 == 45) : Bool) fun t43u1 =>
          iteB t43u1 (
           K0u4 t43u1 h0u2
          ) (
           Let ((v_1 == 48) : Bool) fun t43u2 =>
           iteB t43u2 (
            K0u4 t43u2 h0u2
           ) (
            Let ((v_1 == 61) : Bool) fun t43u3 =>
            iteB t43u3 (
             K0u4 t43u3 h0u2
            ) (
             Let ((v_1 == 9) : Bool) fun t43u4 =>
             K0u4 t43u4 h0u2
            )
           )
          )
         )
        ) (fun t0u4 h0u5 =>
         iteB t0u4 (
          seq (fun (K0u5 : Bool → Heap → Prop) =>
           iteB (decide (n ≤ 128)) (
            strings_HasPrefix (ByteArray.mk #[32, 32, 32, 32, 32, 32, 32, 32, 32, 32, 32, 32, 32, 32, 32, 32, 32, 32, 32, 32, 32, 32, 32, 32, 32, 32, 32, 32, 32, 32, 32, 32, 32, 32, 32, 32, 32, 32, 32, 32, 32, 32, 32, 32, 32, 32, 32, 32, 32, 32, 32, 32, 32, 32, 32, 32, 32, 32, 32, 32, 32, 32, 32, 32, 32, 32, 32, 32, 32, 32, 32, 32, 32, 32, 32, 32, 32, 32, 32, 32, 32, 32, 32, 32, 32, 32, 32, 32, 32, 32, 32, 32, 32, 32, 32, 32, 32, 32, 32, 32, 32, 32, 32, 32, 32, 32, 32, 32, 32, 32, 32, 32, 32, 32, 32, 32, 32, 32, 32, 32, 32, 32, 32, 32, 32, 32, 32, 32]) s0 h0u5 fun v_2 h0u7 =>
            K0u5 v_2 h0u7
           ) (
            K0u5 false h0u5
           )
          ) (fun t0u5 h0u6 =>
           iteB t0u5 (
            sliceStr (ByteArray.mk #[32, 32, 32, 32, 32, 32, 32, 32, 32, 32, 32, 32, 32, 32, 32, 32, 32, 32, 32, 32, 32, 32, 32, 32, 32, 32, 32, 32, 32, 32, 32, 32, 32, 32, 32, 32, 32, 32, 32, 32, 32, 32, 32, 32, 32, 32, 32, 32, 32, 32, 32, 32, 32, 32, 32, 32, 32, 32, 32, 32, 32, 32, 32, 32, 32, 32, 32, 32, 32, 32, 32, 32, 32, 32, 32, 32, 32, 32, 32, 32, 32, 32, 32, 32, 32, 32, 32, 32, 32, 32, 32, 32, 32, 32, 32, 32, 32, 32, 32, 32, 32, 32, 32, 32, 32, 32, 32, 32, 32, 32, 32, 32, 32, 32, 32, 32, 32, 32, 32, 32, 32, 32, 32, 32, 32, 32, 32, 32]) none (some n) fun v_3 =>
            Q v_3 h0u6
           ) (
            seq (fun (K0u6 : Bool → Heap → Prop) =>
             iteB (decide (n ≤ 128)) (
              strings_HasPrefix (ByteArray.mk #[45, 45, 45, 45, 45, 45, 45, 45, 45, 45, 45, 45, 45, 45, 45, 45, 45, 45, 45, 45, 45, 45, 45, 45, 45, 45, 45, 45, 45, 45, 45, 45, 45, 45, 45, 45, 45, 45, 45, 45, 45, 45, 45, 45, 45, 45, 45, 45, 45, 45, 45, 45, 45, 45, 45, 45, 45, 45, 45, 45, 45, 45, 45, 45, 45, 45, 45, 45, 45, 45, 45, 45, 45, 45, 45, 45, 45, 45, 45, 45, 45, 45, 45, 45, 45, 45, 45, 45, 45, 45, 45, 45, 45, 45, 45, 45, 45, 45, 45, 45, 45, 45, 45, 45, 45, 45, 45, 45, 45, 45, 45, 45, 45, 45, 45, 45, 45, 45, 45, 45, 45, 45, 45, 45, 45, 45, 45, 45]) s0 h0u6 fun v_4 h0u9 =>
              K0u6 v_4 h0u9
             ) (
              K0u6 false h0u6
             )
            ) (fun t0u6 h0u8 =>
             iteB t0u6 (
              sliceStr (ByteArray.mk #[45, 45, 45, 45, 45, 45, 45, 45, 45, 45, 45, 45, 45, 45, 45, 45, 45, 45, 45, 45, 45, 45, 45, 45, 45, 45, 45, 45, 45, 45, 45, 45, 45, 45, 45, 45, 45, 45, 45, 45, 45, 45, 45, 45, 45, 45, 45, 45, 45, 45, 45, 45, 45, 45, 45, 45, 45, 45, 45, 45, 45, 45, 45, 45, 45, 45, 45, 45, 45, 45, 45, 45, 45, 45, 45, 45, 45, 45, 45, 45, 45, 45, 45, 45, 45, 45, 45, 45, 45, 45, 45, 45, 45, 45, 45, 45, 45, 45, 45, 45, 45, 45, 45, 45, 45, 45, 45, 45, 45, 45, 45, 45, 45, 45, 45, 45, 45, 45, 45, 45, 45, 45, 45, 45, 45, 45, 45, 45]) none (some n) fun v_5 =>
              Q v_5 h0u8
             ) (
              seq (fun (K0u7 : Bool → Heap → Prop) =>
               iteB (decide (n ≤ 64)) (
                strings_HasPrefix (ByteArray.mk #[48, 48, 48, 48, 48, 48, 48, 48, 48, 48, 48, 48, 48, 48, 48, 48, 48, 48, 48, 48, 48, 48, 48, 48, 48, 48, 48, 48, 48, 48, 48, 48, 48, 48, 48, 48, 48, 48, 48, 48, 48, 48, 48, 48, 48, 48, 48, 48, 48, 48, 48, 48, 48, 48, 48, 48, 48, 48, 48, 48, 48, 48, 48, 48]) s0 h0u8 fun v_6 h0u11 =>
                K0u7 v_6 h0u11
               ) (
                K0u7 false h0u8
               )
              ) (fun t0u7 h0u10 =>
               iteB t0u7 (
                sliceStr (ByteArray.mk #[48, 48, 48, 48, 48, 48, 48, 48, 48, 48, 48, 48, 48, 48, 48, 48, 48, 48, 48, 48, 48, 48, 48, 48, 48, 48, 48, 48, 48, 48, 48, 48, 48, 48, 48, 48, 48, 48, 48, 48, 48, 48, 48, 48, 48, 48, 48, 48, 48, 48, 48, 48, 48, 48, 48, 48, 48, 48, 48, 48, 48, 48, 48, 48]) none (some n) fun v_7 =>
                Q v_7 h0u10
               ) (
                seq (fun (K0u8 : Bool → Heap → Prop) =>
                 iteB (decide (n ≤ 128)) (
                  strings_HasPrefix (ByteArray.mk #[61, 61, 61, 61, 61, 61, 61, 61, 61, 61, 61, 61, 61, 61, 61, 61, 61, 61, 61, 61, 61, 61, 61, 61, 61, 61, 61, 61, 61, 61, 61, 61, 61, 61, 61, 61, 61, 61, 61, 61, 61, 61, 61, 61, 61, 61, 61, 61, 61, 61, 61, 61, 61, 61, 61, 61, 61, 61, 61, 61, 61, 61, 61, 61, 61, 61, 61, 61, 61, 61, 61, 61, 61, 61, 61, 61, 61, 61, 61, 61, 61, 61, 61, 61, 61, 61, 61, 61, 61, 61, 61, 61, 61, 61, 61, 61, 61, 61, 61, 61, 61, 61, 61, 61, 61, 61, 61, 61, 61, 61, 61, 61, 61, 61, 61, 61, 61, 61, 61, 61, 61, 61, 61, 61, 61, 61, 61, 61]) s0 h0u10 fun v_8 h0u13 =>
                  K0u8 v_8 h0u13
                 ) (
                  K0u8 false h0u10
                 )
                ) (fun t0u8 h0u12 =>
                 iteB t0u8 (
                  sliceStr (ByteArray.mk #[61, 61, 61, 61, 61, 61, 61, 61, 61, 61, 61, 61, 61, 61, 61, 61, 61, 61, 61, 61, 61, 61, 61, 61, 61, 61, 61, 61, 61, 61, 61, 61, 61, 61, 61, 61, 61, 61, 61, 61, 61, 61, 61, 61, 61, 61, 61, 61, 61, 61, 61, 61, 61, 61, 61, 61, 61, 61, 61, 61, 61, 61, 61, 61, 61, 61, 61, 61, 61, 61, 61, 61, 61, 61, 61, 61, 61, 61, 61, 61, 61, 61, 61, 61, 61, 61, 61, 61, 61, 61, 61, 61, 61, 61, 61, 61, 61, 61, 61, 61, 61, 61, 61, 61, 61, 61, 61, 61, 61, 61, 61, 61, 61, 61, 61, 61, 61, 61, 61, 61, 61, 61, 61, 61, 61, 61, 61, 61]) none (some n) fun v_9 =>
                  Q v_9 h0u12
                 ) (
                  seq (fun (K0u9 : Bool → Heap → Prop) =>
                   iteB (decide (n ≤ 64)) (
                    strings_HasPrefix (ByteArray.mk #[9, 9, 9, 9, 9, 9, 9, 9, 9, 9, 9, 9, 9, 9, 9, 9, 9, 9, 9, 9, 9, 9, 9, 9, 9, 9, 9, 9, 9, 9, 9, 9, 9, 9, 9, 9, 9, 9, 9, 9, 9, 9, 9, 9, 9, 9, 9, 9, 9, 9, 9, 9, 9, 9, 9, 9, 9, 9, 9, 9, 9, 9, 9, 9]) s0 h0u12 fun v_10 h0u15 =>
                    K0u9 v_10 h0u15
                   ) (
                    K0u9 false h0u12
                   )
                  ) (fun t0u9 h0u14 =>
                   iteB t0u9 (
                    sliceStr (ByteArray.mk #[9, 9, 9, 9, 9, 9, 9, 9, 9, 9, 9, 9, 9, 9, 9, 9, 9, 9, 9, 9, 9, 9, 9, 9, 9, 9, 9, 9, 9, 9, 9, 9, 9, 9, 9, 9, 9, 9, 9, 9, 9, 9, 9, 9, 9, 9, 9, 9, 9, 9, 9, 9, 9, 9, 9, 9, 9, 9, 9, 9, 9, 9, 9, 9]) none (some n) fun v_11 =>
                    Q v_11 h0u14
                   ) (
                    K0u3 () h0u14
                   )
                  )
                 )
                )
               )
              )
             )
            )
           )
          )
         ) (
          K0u3 () h0u5
         )
        )
       ) (fun t0u3 h0u4 =>
        seq (fun (K0u10 : Int → Heap → Prop) =>
         iteB (decide (n > 8192)) (
          (((s0.size : Nat) : Int) ≠ 0) ∧
          Let (IntKind.wrap .i64 ((IntKind.wrap .i64 (Int.tdiv 8192 ((s0.size : Nat) : Int))) * ((s0.size : Nat) : Int)) : Int) fun chunkMax =>
          iteB (chunkMax == 0) (
           Let (((s0.size : Nat) : Int) : Int) fun chunkMax_1 =>
           K0u10 chunkMax_1 h0u4
          ) (
           K0u10 chunkMax h0u4
          )
         ) (
          K0u10 n h0u4
         )
        ) (fun t0u10 h0u16 =>
         new [Value.pointer none, Sl.toV Sl.nil] h0u16 fun b h0u17 =>
         strings_Builder_Grow (some b) n h0u17 fun v_12 h0u18 =>
         strings_Builder_WriteString (some b) s0 h0u18 fun v_13 h0u19 =>
         loop (fun (s0u1 : Unit) h0u20 (K0u11 : Unit → Heap → Prop) =>
          strings_Builder_Len (some b) h0u20 fun v_14 h0u21 =>
          iteB (decide (v_14 < n)) (
           strings_Builder_Len (some b) h0u21 fun v_15 h0u22 =>
           strings_Builder_Len (some b) h0u22 fun v_16 h0u23 =>
           False
          ) (
           strings_Builder_String (some b) h0u21 fun v_17 h0u24 =>
           Q v_17 h0u24
          )
         ) () h0u19
        )
       )
      )
     )
    )
   )
  )
def nat_bit (x0 : Sl) (at0 : Int) (h : Heap) (Q : Int → Heap → Prop) : Prop :=
  idxS x0 (IntKind.wrap .i64 (Int.tdiv at0 32)) 1 fun a =>
  Lift.load (Value.int .u32) a h fun v =>
  (0 ≤ (Int.tmod at0 32)) ∧
  Q (IntKind.wrap .u32 (((BitVec.ofInt (IntKind.bits .u32) (Int.fdiv v (2 ^ (min (Int.toNat (Int.tmod at0 32)) (IntKind.bits .u32)))) &&& BitVec.ofInt (IntKind.bits .u32) 1).toNat : Int))) h
def nat_divide (x0 : Sl) (y : Sl) (h : Heap) (Q : (Sl × Sl) → Heap → Prop) : Prop :=
  nat_small x0 h fun v h0 =>
  nat_small y h0 fun v_1 h0u1 =>
  seq (fun (K0 : Bool → Heap → Prop) =>
   iteB v.2 (
    K0 v_1.2 h0u1
   ) (
    K0 false h0u1
   )
  ) (fun t0 h0u2 =>
   iteB t0 (
    (v_1.1 ≠ 0) ∧
    (v_1.1 ≠ 0) ∧
    nat_Of (IntKind.wrap .u64 (Int.tdiv v.1 v_1.1)) h0u2 fun v_2 h0u3 =>
    nat_Of (Int.tmod v.1 v_1.1) h0u3 fun v_3 h0u4 =>
    Q (v_2, v_3) h0u4
   ) (
    nat_trim x0 h0u2 fun v_4 h0u5 =>
    nat_trim y h0u5 fun v_5 h0u6 =>
    Let (((v_4.len : Nat) : Int) : Int) fun t38 =>
    mkS [Value.int .u32 0] 4 t38 t38 h0u6 fun v_6 h0u7 =>
    Let (IntKind.wrap .i64 ((IntKind.wrap .i64 (((v_4.len : Nat) : Int) * 32)) - 1) : Int) fun at0 =>
    loop (fun (s0 : Sl × Int) h0u8 (K0u1 : (Sl × Int) → Heap → Prop) =>
     iteB (decide (s0.2 ≥ 0)) (
      seq (fun (K0u2 : Sl → Heap → Prop) =>
       nat_plus s0.1 s0.1 h0u8 fun v_7 h0u10 =>
       idxS v_7 0 1 fun a =>
       Lift.load (Value.int .u32) a h0u10 fun v_8 =>
       nat_bit v_4 s0.2 h0u10 fun v_9 h0u11 =>
       (cell? h0u11 a = some (Value.int .u32 v_8)) ∧
       idxS v_7 0 1 fun a_1 =>
       Lift.store a_1 (Value.int .u32 (IntKind.wrap .u32 (((BitVec.ofInt (IntKind.bits .u32) v_8 ||| BitVec.ofInt (IntKind.bits .u32) v_9).toNat : Int)))) h0u11 fun h0u12 =>
       nat_trim v_7 h0u12 fun v_10 h0u13 =>
       nat_Cmp v_10 v_5 h0u13 fun v_11 h0u14 =>
       iteB (decide (v_11 ≥ 0)) (
        nat_minus v_10 v_5 h0u14 fun v_12 h0u15 =>
        idxS v_6 (IntKind.wrap .i64 (Int.tdiv s0.2 32)) 1 fun a_2 =>
        Lift.load (Value.int .u32) a_2 h0u15 fun v_13 =>
        (0 ≤ (Int.tmod s0.2 32)) ∧
        idxS v_6 (IntKind.wrap .i64 (Int.tdiv s0.2 32)) 1 fun a_3 =>
        Lift.store a_3 (Value.int .u32 (IntKind.wrap .u32 (((BitVec.ofInt (IntKind.bits .u32) v_13 ||| BitVec.ofInt (IntKind.bits .u32) (IntKind.wrap .u32 (1 * 2 ^ (min (Int.toNat (Int.tmod s0.2 32)) (IntKind.bits .u32))))).toNat : Int)))) h0u15 fun h0u16 =>
        K0u2 v_12 h0u16
       ) (
        K0u2 v_10 h0u14
       )
      ) (fun t0u1 h0u9 =>
       Let (IntKind.wrap .i64 (s0.2 - 1) : Int) fun at0u1 =>
       K0u1 (t0u1, at0u1) h0u9
      )
     ) (
      nat_trim v_6 h0u8 fun v_14 h0u17 =>
      Q (v_14, s0.1) h0u17
     )
    ) (Sl.nil, at0) h0u7
   )
  )
def nat_Bench_Div (b : (Option Addr)) (x0 : Sl) (y : Sl) (h : Heap) (Q : (Sl × Sl) → Heap → Prop) : Prop :=
  nat_trim y h fun v h0 =>
  iteB (((v.len : Nat) : Int) == 0) (
   Q (Sl.nil, Sl.nil) h0
  ) (
   nat_divide x0 y h0 fun v_1 h0u1 =>
   nat_Bench_fit b v_1.1 h0u1 fun v_2 h0u2 =>
   nat_Bench_fit b v_1.2 h0u2 fun v_3 h0u3 =>
   nilChk b fun a =>
   Lift.load Value.bool (a.add 1) h0u3 fun v_4 =>
   iteB v_4 (
    Q (Sl.nil, Sl.nil) h0u3
   ) (
    Q (v_2, v_3) h0u3
   )
  )
def ratio_form (neg : Bool) (num : Sl) (d : Sl) (h : Heap) (Q : (Bool × Sl × Sl) → Heap → Prop) : Prop :=
  mem h fun h0 =>
  ratio_free h0 fun v h0u1 =>
  nat_Bench_Gcd v num d h0u1 fun v_1 h0u2 =>
  nat_Bench_Div v num v_1 h0u2 fun v_2 h0u3 =>
  nat_Bench_Div v d v_1 h0u3 fun v_3 h0u4 =>
  seq (fun (K0 : Sl → Heap → Prop) =>
   ratio_isOne v_3.1 h0u4 fun v_4 h0u6 =>
   iteB v_4 (
    K0 Sl.nil h0u6
   ) (
    K0 v_3.1 h0u6
   )
  ) (fun t0 h0u5 =>
   iteB (((v_2.1.len : Nat) : Int) == 0) (
    Q (false, Sl.nil, Sl.nil) h0u5
   ) (
    Q (neg, v_2.1, t0) h0u5
   )
  )
def ratio_fit (b : (Option Addr)) (x0 : Bool × Sl × Sl) (h : Heap) (Q : (Bool × Sl × Sl) → Heap → Prop) : Prop :=
  mem h fun h0 =>
  nat_Bench_Add b x0.2.1 Sl.nil h0 fun v h0u1 =>
  nat_Bench_Add b x0.2.2 Sl.nil h0u1 fun v_1 h0u2 =>
  nat_Bench_Over b h0u2 fun v_2 h0u3 =>
  iteB v_2 (
   Q (false, Sl.nil, Sl.nil) h0u3
  ) (
   Q (x0.1, x0.2.1, x0.2.2) h0u3
  )
def ratio_Decimal (b : (Option Addr)) (s0 : ByteArray) (h : Heap) (Q : ((Bool × Sl × Sl) × Bool) → Heap → Prop) : Prop :=
  mem h fun h0 =>
  strings_Cut s0 (ByteArray.mk #[46]) h0 fun v h0u1 =>
  seq (fun (K0 : Bool → Heap → Prop) =>
   iteB (decide (((s0.size : Nat) : Int) > 10000)) (
    K0 true h0u1
   ) (
    nat_Bench_Over b h0u1 fun v_1 h0u3 =>
    iteB v_1 (
     K0 true h0u3
    ) (
     iteB (v.1.toList == (ByteArray.mk #[]).toList) (
      K0 true h0u3
     ) (
      iteB v.2.2 (
       K0 (v.2.1.toList == (ByteArray.mk #[]).toList) h0u3
      ) (
       K0 false h0u3
      )
     )
    )
   )
  ) (fun t0 h0u2 =>
   iteB t0 (
    Q ((false, Sl.nil, Sl.nil), false) h0u2
   ) (
    ratio_free h0u2 fun v_2 h0u4 =>
    ((v.1.size + v.2.1.size : Nat) : Int) ≤ 9223372036854775807 ∧
    nat_Bench_Parse v_2 (v.1 ++ v.2.1) h0u4 fun v_3 h0u5 =>
    iteB (!v_3.2) (
     Q ((false, Sl.nil, Sl.nil), false) h0u5
    ) (
     strings_Repeat (ByteArray.mk #[48]) ((v.2.1.size : Nat) : Int) h0u5 fun v_4 h0u6 =>
     (((ByteArray.mk #[49]).size + v_4.size : Nat) : Int) ≤ 9223372036854775807 ∧
     nat_Bench_Parse v_2 ((ByteArray.mk #[49]) ++ v_4) h0u6 fun v_5 h0u7 =>
     ratio_form false v_3.1 v_5.1 h0u7 fun v_6 h0u8 =>
     ratio_fit b (v_6.1, v_6.2.1, v_6.2.2) h0u8 fun v_7 h0u9 =>
     mem h0u9 fun h0u10 =>
     nat_Bench_Over b h0u10 fun v_8 h0u11 =>
     Q ((v_7.1, v_7.2.1, v_7.2.2), (!v_8)) h0u11
    )
   )
  )
def slices_Reverse_byte_byte (s0 : Sl) (h : Heap) (Q : Unit → Heap → Prop) : Prop :=
  Let (IntKind.wrap .i64 (((s0.len : Nat) : Int) - 1) : Int) fun j =>
  loop (fun (s0u1 : Int × Int) h0 (K0 : (Int × Int) → Heap → Prop) =>
   iteB (decide (s0u1.1 < s0u1.2)) (
    idxS s0 s0u1.2 1 fun a =>
    Lift.load (Value.int .u8) a h0 fun v =>
    idxS s0 s0u1.1 1 fun a_1 =>
    Lift.load (Value.int .u8) a_1 h0 fun v_1 =>
    idxS s0 s0u1.1 1 fun a_2 =>
    Lift.store a_2 (Value.int .u8 v) h0 fun h0u1 =>
    idxS s0 s0u1.2 1 fun a_3 =>
    Lift.store a_3 (Value.int .u8 v_1) h0u1 fun h0u2 =>
    Let (IntKind.wrap .i64 (s0u1.1 + 1) : Int) fun i =>
    Let (IntKind.wrap .i64 (s0u1.2 - 1) : Int) fun j_1 =>
    K0 (i, j_1) h0u2
   ) (
    Q () h0
   )
  ) (0, j) h
def nat_Text (x0 : Sl) (h : Heap) (Q : ByteArray → Heap → Prop) : Prop :=
  nat_trim x0 h fun v h0 =>
  loop (fun (s0 : Sl × Sl) h0u1 (K0 : (Sl × Sl) → Heap → Prop) =>
   iteB (decide (((s0.1.len : Nat) : Int) > 0)) (
    new [Value.int .u32 1000000000] h0u1 fun a h0u2 =>
    nat_divide s0.1 (⟨some a, 1, 1⟩ : Sl) h0u2 fun v_2 h0u3 =>
    nat_small v_2.2 h0u3 fun v_3 h0u4 =>
    loop (fun (s0u1 : Sl × Int × Int) h0u5 (K0u1 : (Sl × Int × Int) → Heap → Prop) =>
     seq (fun (K0u2 : Bool → Heap → Prop) =>
      iteB (decide (s0u1.2.2 < 9)) (
       iteB (decide (((v_2.1.len : Nat) : Int) > 0)) (
        K0u2 true h0u5
       ) (
        K0u2 (decide (s0u1.2.1 > 0)) h0u5
       )
      ) (
       K0u2 false h0u5
      )
     ) (fun t0 h0u6 =>
      iteB t0 (
       new [Value.int .u8 (IntKind.wrap .u8 (IntKind.wrap .u64 (48 + (Int.tmod s0u1.2.1 10))))] h0u6 fun a_1 h0u7 =>
       appendS 1 1 s0u1.1 (⟨some a_1, 1, 1⟩ : Sl) h0u7 fun v_5 h0u8 =>
       Let (IntKind.wrap .u64 (Int.tdiv s0u1.2.1 10) : Int) fun part =>
       Let (IntKind.wrap .i64 (s0u1.2.2 + 1) : Int) fun i =>
       K0u1 (v_5, part, i) h0u8
      ) (
       K0 (v_2.1, s0u1.1) h0u6
      )
     )
    ) (s0.2, v_3.1, 0) h0u4
   ) (
    iteB (((s0.2.len : Nat) : Int) == 0) (
     Q (ByteArray.mk #[48]) h0u1
    ) (
     slices_Reverse_byte_byte s0.2 h0u1 fun v_6 h0u9 =>
     strOf s0.2 h0u9 fun v_7 =>
     Q v_7 h0u9
    )
   )
  ) (v, Sl.nil) h0
def ratio_Text (x0 : Bool × Sl × Sl) (h : Heap) (Q : ByteArray → Heap → Prop) : Prop :=
  mem h fun h0 =>
  nat_Text x0.2.1 h0 fun v h0u1 =>
  seq (fun (K0 : ByteArray → Heap → Prop) =>
   iteB x0.1 (
    (((ByteArray.mk #[45]).size + v.size : Nat) : Int) ≤ 9223372036854775807 ∧
    Let (((ByteArray.mk #[45]) ++ v) : ByteArray) fun s0 =>
    K0 s0 h0u1
   ) (
    K0 v h0u1
   )
  ) (fun t0 h0u2 =>
   seq (fun (K0u1 : ByteArray → Heap → Prop) =>
    iteB (decide (((x0.2.2.len : Nat) : Int) > 0)) (
     nat_Text x0.2.2 h0u2 fun v_1 h0u4 =>
     (((ByteArray.mk #[47]).size + v_1.size : Nat) : Int) ≤ 9223372036854775807 ∧
     ((t0.size + ((ByteArray.mk #[47]) ++ v_1).size : Nat) : Int) ≤ 9223372036854775807 ∧
     Let ((t0 ++ ((ByteArray.mk #[47]) ++ v_1)) : ByteArray) fun s0u1 =>
     K0u1 s0u1 h0u4
    ) (
     K0u1 t0 h0u2
    )
   ) (fun t0u1 h0u3 =>
    Q t0u1 h0u3
   )
  )
def ratio_Neg (x0 : Bool × Sl × Sl) (h : Heap) (Q : (Bool × Sl × Sl) → Heap → Prop) : Prop :=
  mem h fun h0 =>
  seq (fun (K0 : Bool → Heap → Prop) =>
   iteB (!x0.1) (
    Let (decide (((x0.2.1.len : Nat) : Int) > 0) : Bool) fun neg =>
    K0 neg h0
   ) (
    K0 false h0
   )
  ) (fun t0 h0u1 =>
   slices_Clone_api_Nat_uint32 x0.2.1 h0u1 fun v h0u2 =>
   slices_Clone_api_Nat_uint32 x0.2.2 h0u2 fun v_1 h0u3 =>
   Q (t0, v, v_1) h0u3
  )
def ratio_Term (x0 : Bool × Sl × Sl) (h : Heap) (Q : ByteArray → Heap → Prop) : Prop :=
  mem h fun h0 =>
  nat_Text x0.2.1 h0 fun v h0u1 =>
  ((v.size + (ByteArray.mk #[46, 48]).size : Nat) : Int) ≤ 9223372036854775807 ∧
  Let ((v ++ (ByteArray.mk #[46, 48])) : ByteArray) fun s0 =>
  seq (fun (K0 : ByteArray → Heap → Prop) =>
   iteB (decide (((x0.2.2.len : Nat) : Int) > 0)) (
    (((ByteArray.mk #[40, 47, 32]).size + s0.size : Nat) : Int) ≤ 9223372036854775807 ∧
    ((((ByteArray.mk #[40, 47, 32]) ++ s0).size + (ByteArray.mk #[32]).size : Nat) : Int) ≤ 9223372036854775807 ∧
    nat_Text x0.2.2 h0u1 fun v_1 h0u3 =>
    (((((ByteArray.mk #[40, 47, 32]) ++ s0) ++ (ByteArray.mk #[32])).size + v_1.size : Nat) : Int) ≤ 9223372036854775807 ∧
    ((((((ByteArray.mk #[40, 47, 32]) ++ s0) ++ (ByteArray.mk #[32])) ++ v_1).size + (ByteArray.mk #[46, 48, 41]).size : Nat) : Int) ≤ 9223372036854775807 ∧
    Let ((((((ByteArray.mk #[40, 47, 32]) ++ s0) ++ (ByteArray.mk #[32])) ++ v_1) ++ (ByteArray.mk #[46, 48, 41])) : ByteArray) fun s0u1 =>
    K0 s0u1 h0u3
   ) (
    K0 s0 h0u1
   )
  ) (fun t0 h0u2 =>
   seq (fun (K0u1 : ByteArray → Heap → Prop) =>
    iteB x0.1 (
     (((ByteArray.mk #[40, 45, 32]).size + t0.size : Nat) : Int) ≤ 9223372036854775807 ∧
     ((((ByteArray.mk #[40, 45, 32]) ++ t0).size + (ByteArray.mk #[41]).size : Nat) : Int) ≤ 9223372036854775807 ∧
     Let ((((ByteArray.mk #[40, 45, 32]) ++ t0) ++ (ByteArray.mk #[41])) : ByteArray) fun s0u2 =>
     K0u1 s0u2 h0u2
    ) (
     K0u1 t0 h0u2
    )
   ) (fun t0u1 h0u4 =>
    Q t0u1 h0u4
   )
  )
def law02uspeaks (h : Heap) (Q : Bool → Heap → Prop) : Prop :=
  nat_New 2 h fun v h0 =>
  ratio_Decimal v (ByteArray.mk #[49, 50, 46, 53, 48]) h0 fun v_1 h0u1 =>
  mem h0u1 fun h0u2 =>
  seq (fun (K0 : Bool → Heap → Prop) =>
   iteB v_1.2 (
    ratio_Text (v_1.1.1, v_1.1.2.1, v_1.1.2.2) h0u2 fun v_2 h0u4 =>
    iteB (v_2.toList == (ByteArray.mk #[50, 53, 47, 50]).toList) (
     ratio_Neg (v_1.1.1, v_1.1.2.1, v_1.1.2.2) h0u4 fun v_3 h0u5 =>
     ratio_Term (v_3.1, v_3.2.1, v_3.2.2) h0u5 fun v_4 h0u6 =>
     K0 (v_4.toList == (ByteArray.mk #[40, 45, 32, 40, 47, 32, 50, 53, 46, 48, 32, 50, 46, 48, 41, 41]).toList) h0u6
    ) (
     K0 false h0u4
    )
   ) (
    K0 false h0u2
   )
  ) (fun t0 h0u3 =>
   Q t0 h0u3
  )
def ref01uCut (x0 : Sl) (h : Heap) (Q : Sl → Heap → Prop) : Prop :=
  Let (((x0.len : Nat) : Int) : Int) fun n =>
  loop (fun (s0 : Int) h0 (K0 : Int → Heap → Prop) =>
   seq (fun (K0u1 : Bool → Heap → Prop) =>
    iteB (decide (s0 > 0)) (
     idxS x0 (IntKind.wrap .i64 (s0 - 1)) 1 fun a =>
     Lift.load (Value.int .i64) a h0 fun v =>
     K0u1 (v == 0) h0
    ) (
     K0u1 false h0
    )
   ) (fun t0 h0u1 =>
    iteB t0 (
     Let (IntKind.wrap .i64 (s0 - 1) : Int) fun n_1 =>
     K0 n_1 h0u1
    ) (
     sliceOf x0 none (some s0) none 1 fun v_1 =>
     Q v_1 h0u1
    )
   )
  ) n h
def ref01uOf (x0 : Sl) (h : Heap) (Q : Sl → Heap → Prop) : Prop :=
  new [] h fun a h0 =>
  Let ((⟨some a, 0, 0⟩ : Sl) : Sl) fun out =>
  Let (IntKind.wrap .i64 (((x0.len : Nat) : Int) - 1) : Int) fun i =>
  loop (fun (s0 : Sl × Int) h0u1 (K0 : (Sl × Int) → Heap → Prop) =>
   iteB (decide (s0.2 ≥ 0)) (
    idxS x0 s0.2 1 fun a_1 =>
    Lift.load (Value.int .u32) a_1 h0u1 fun v_1 =>
    Let (IntKind.wrap .i64 v_1 : Int) fun carry =>
    loop (fun (s0u1 : Int × Int) h0u2 (K0u1 : (Int × Int) → Heap → Prop) =>
     iteB (decide (s0u1.2 < ((s0.1.len : Nat) : Int))) (
      idxS s0.1 s0u1.2 1 fun a_2 =>
      Lift.load (Value.int .i64) a_2 h0u2 fun v_2 =>
      Let (IntKind.wrap .i64 ((IntKind.wrap .i64 (v_2 * 4294967296)) + s0u1.1) : Int) fun n =>
      idxS s0.1 s0u1.2 1 fun a_3 =>
      Lift.store a_3 (Value.int .i64 (Int.tmod n 10)) h0u2 fun h0u3 =>
      Let (IntKind.wrap .i64 (Int.tdiv n 10) : Int) fun carry_1 =>
      Let (IntKind.wrap .i64 (s0u1.2 + 1) : Int) fun k =>
      K0u1 (carry_1, k) h0u3
     ) (
      loop (fun (s0u2 : Sl × Int) h0u4 (K0u2 : (Sl × Int) → Heap → Prop) =>
       iteB (decide (s0u2.2 > 0)) (
        new [Value.int .i64 (Int.tmod s0u2.2 10)] h0u4 fun a_4 h0u5 =>
        appendS 1 8 s0u2.1 (⟨some a_4, 1, 1⟩ : Sl) h0u5 fun v_4 h0u6 =>
        Let (IntKind.wrap .i64 (Int.tdiv s0u2.2 10) : Int) fun carry_2 =>
        K0u2 (v_4, carry_2) h0u6
       ) (
        Let (IntKind.wrap .i64 (s0.2 - 1) : Int) fun i_1 =>
        K0 (s0u2.1, i_1) h0u4
       )
      ) (s0.1, s0u1.1) h0u2
     )
    ) (carry, 0) h0u1
   ) (
    ref01uCut s0.1 h0u1 fun v_5 h0u7 =>
    Q v_5 h0u7
   )
  ) (out, i) h0
def ref02uOf (x0 : Bool × Sl × Sl) (h : Heap) (Q : (Bool × Sl × Sl) → Heap → Prop) : Prop :=
  mem h fun h0 =>
  seq (fun (K0 : (Bool × Sl × Sl) → Heap → Prop) =>
   mem h0 fun h0u2 =>
   ref01uOf x0.2.1 h0u2 fun v_3 h0u9 =>
   mem h0u9 fun h0u10 =>
   ref01uOf x0.2.2 h0u10 fun v_4 h0u11 =>
   mem h0u11 fun h0u12 =>
   K0 (x0.1, v_3, v_4) h0u12
  ) (fun t0 h0u1 =>
   seq (fun (K0u1 : (Bool × Sl × Sl) → Heap → Prop) =>
    iteB (((t0.2.2.len : Nat) : Int) == 0) (
     new [Value.int .i64 1] h0u1 fun a h0u14 =>
     K0u1 (t0.1, t0.2.1, (⟨some a, 1, 1⟩ : Sl)) h0u14
    ) (
     K0u1 (t0.1, t0.2.1, t0.2.2) h0u1
    )
   ) (fun t0u1 h0u13 =>
    Q (t0u1.1, t0u1.2.1, t0u1.2.2) h0u13
   )
  )
def ref02uInt (n : Int) (h : Heap) (Q : (Bool × Sl × Sl) → Heap → Prop) : Prop :=
  mem h fun h0 =>
  new [] h0 fun a h0u1 =>
  new [Value.int .i64 1] h0u1 fun a_1 h0u2 =>
  mem h0u2 fun h0u3 =>
  seq (fun (K0 : Int → Heap → Prop) =>
   iteB (decide (n < 0)) (
    Let (IntKind.wrap .i64 (0 - n) : Int) fun n_1 =>
    K0 n_1 h0u3
   ) (
    K0 n h0u3
   )
  ) (fun t0 h0u4 =>
   loop (fun (s0 : Int × Bool × Sl × Sl) h0u5 (K0u1 : (Int × Bool × Sl × Sl) → Heap → Prop) =>
    iteB (decide (s0.1 > 0)) (
     new [Value.int .i64 (Int.tmod s0.1 10)] h0u5 fun a_2 h0u6 =>
     appendS 1 8 s0.2.2.1 (⟨some a_2, 1, 1⟩ : Sl) h0u6 fun v_3 h0u7 =>
     Let (IntKind.wrap .i64 (Int.tdiv s0.1 10) : Int) fun n_2 =>
     K0u1 (n_2, s0.2.1, v_3, s0.2.2.2) h0u7
    ) (
     Q (s0.2.1, s0.2.2.1, s0.2.2.2) h0u5
    )
   ) (t0, decide (n < 0), (⟨some a, 0, 0⟩ : Sl), (⟨some a_1, 1, 1⟩ : Sl)) h0u4
  )
def ref01uCmp (x0 : Sl) (y : Sl) (h : Heap) (Q : Int → Heap → Prop) : Prop :=
  iteB (((x0.len : Nat) : Int) != ((y.len : Nat) : Int)) (
   iteB (decide (((x0.len : Nat) : Int) < ((y.len : Nat) : Int))) (
    Q (-1) h
   ) (
    Q 1 h
   )
  ) (
   Let (IntKind.wrap .i64 (((x0.len : Nat) : Int) - 1) : Int) fun i =>
   loop (fun (s0 : Int) h0 (K0 : Int → Heap → Prop) =>
    iteB (decide (s0 ≥ 0)) (
     idxS x0 s0 1 fun a =>
     Lift.load (Value.int .i64) a h0 fun v =>
     idxS y s0 1 fun a_1 =>
     Lift.load (Value.int .i64) a_1 h0 fun v_1 =>
     iteB (decide (v < v_1)) (
      Q (-1) h0
     ) (
      idxS x0 s0 1 fun a_2 =>
      Lift.load (Value.int .i64) a_2 h0 fun v_2 =>
      idxS y s0 1 fun a_3 =>
      Lift.load (Value.int .i64) a_3 h0 fun v_3 =>
      iteB (decide (v_2 > v_3)) (
       Q 1 h0
      ) (
       Let (IntKind.wrap .i64 (s0 - 1) : Int) fun i_1 =>
       K0 i_1 h0
      )
     )
    ) (
     Q 0 h0
    )
   ) i h
  )
def ref01uSub (x0 : Sl) (y : Sl) (h : Heap) (Q : Sl → Heap → Prop) : Prop :=
  ref01uCmp x0 y h fun v h0 =>
  iteB (decide (v < 0)) (
   new [] h0 fun a h0u1 =>
   Q (⟨some a, 0, 0⟩ : Sl) h0u1
  ) (
   new [] h0 fun a_1 h0u2 =>
   Let ((⟨some a_1, 0, 0⟩ : Sl) : Sl) fun out =>
   loop (fun (s0 : Sl × Int × Int) h0u3 (K0 : (Sl × Int × Int) → Heap → Prop) =>
    iteB (decide (s0.2.2 < ((x0.len : Nat) : Int))) (
     idxS x0 s0.2.2 1 fun a_2 =>
     Lift.load (Value.int .i64) a_2 h0u3 fun v_3 =>
     Let (IntKind.wrap .i64 (v_3 - s0.2.1) : Int) fun n =>
     seq (fun (K0u1 : Int → Heap → Prop) =>
      iteB (decide (s0.2.2 < ((y.len : Nat) : Int))) (
       idxS y s0.2.2 1 fun a_3 =>
       Lift.load (Value.int .i64) a_3 h0u3 fun v_4 =>
       Let (IntKind.wrap .i64 (n - v_4) : Int) fun n_1 =>
       K0u1 n_1 h0u3
      ) (
       K0u1 n h0u3
      )
     ) (fun t0 h0u4 =>
      seq (fun (K0u2 : (Int × Int) → Heap → Prop) =>
       iteB (decide (t0 < 0)) (
        Let (IntKind.wrap .i64 (t0 + 10) : Int) fun n_2 =>
        K0u2 (1, n_2) h0u4
       ) (
        K0u2 (0, t0) h0u4
       )
      ) (fun t0u1 h0u5 =>
       new [Value.int .i64 t0u1.2] h0u5 fun a_4 h0u6 =>
       appendS 1 8 s0.1 (⟨some a_4, 1, 1⟩ : Sl) h0u6 fun v_6 h0u7 =>
       Let (IntKind.wrap .i64 (s0.2.2 + 1) : Int) fun i =>
       K0 (v_6, t0u1.1, i) h0u7
      )
     )
    ) (
     ref01uCut s0.1 h0u3 fun v_7 h0u8 =>
     Q v_7 h0u8
    )
   ) (out, 0, 0) h0u2
  )
def ref01uDiv (x0 : Sl) (y : Sl) (h : Heap) (Q : (Sl × Sl) → Heap → Prop) : Prop :=
  iteB (((y.len : Nat) : Int) == 0) (
   new [] h fun a h0 =>
   new [] h0 fun a_1 h0u1 =>
   Q ((⟨some a, 0, 0⟩ : Sl), (⟨some a_1, 0, 0⟩ : Sl)) h0u1
  ) (
   Let (((x0.len : Nat) : Int) : Int) fun t15 =>
   mkS [Value.int .i64 0] 8 t15 t15 h fun v_2 h0u2 =>
   new [] h0u2 fun a_2 h0u3 =>
   Let ((⟨some a_2, 0, 0⟩ : Sl) : Sl) fun r =>
   Let (IntKind.wrap .i64 (((x0.len : Nat) : Int) - 1) : Int) fun i =>
   loop (fun (s0 : Sl × Int) h0u4 (K0 : (Sl × Int) → Heap → Prop) =>
    iteB (decide (s0.2 ≥ 0)) (
     idxS x0 s0.2 1 fun a_3 =>
     Lift.load (Value.int .i64) a_3 h0u4 fun v_4 =>
     new [Value.int .i64 v_4] h0u4 fun a_4 h0u5 =>
     appendS 1 8 (⟨some a_4, 1, 1⟩ : Sl) s0.1 h0u5 fun v_6 h0u6 =>
     ref01uCut v_6 h0u6 fun v_7 h0u7 =>
     loop (fun (s0u1 : Sl) h0u8 (K0u1 : Sl → Heap → Prop) =>
      ref01uCmp s0u1 y h0u8 fun v_8 h0u9 =>
      iteB (decide (v_8 ≥ 0)) (
       ref01uSub s0u1 y h0u9 fun v_9 h0u10 =>
       idxS v_2 s0.2 1 fun a_5 =>
       Lift.load (Value.int .i64) a_5 h0u10 fun v_10 =>
       idxS v_2 s0.2 1 fun a_6 =>
       Lift.store a_6 (Value.int .i64 (IntKind.wrap .i64 (v_10 + 1))) h0u10 fun h0u11 =>
       K0u1 v_9 h0u11
      ) (
       Let (IntKind.wrap .i64 (s0.2 - 1) : Int) fun i_1 =>
       K0 (s0u1, i_1) h0u9
      )
     ) v_7 h0u7
    ) (
     ref01uCut v_2 h0u4 fun v_11 h0u12 =>
     Q (v_11, s0.1) h0u12
    )
   ) (r, i) h0u3
  )
def ref01uGcd (x0 : Sl) (y : Sl) (h : Heap) (Q : Sl → Heap → Prop) : Prop :=
  loop (fun (s0 : Sl × Sl) h0 (K0 : (Sl × Sl) → Heap → Prop) =>
   iteB (decide (((s0.2.len : Nat) : Int) > 0)) (
    ref01uDiv s0.1 s0.2 h0 fun v h0u1 =>
    K0 (s0.2, v.2) h0u1
   ) (
    Q s0.1 h0
   )
  ) (x0, y) h
def ref02uLow (r : Bool × Sl × Sl) (h : Heap) (Q : (Bool × Sl × Sl) → Heap → Prop) : Prop :=
  mem h fun h0 =>
  iteB (((r.2.1.len : Nat) : Int) == 0) (
   ref02uInt 0 h0 fun v h0u1 =>
   Q (v.1, v.2.1, v.2.2) h0u1
  ) (
   ref01uGcd r.2.1 r.2.2 h0 fun v_1 h0u2 =>
   ref01uDiv r.2.1 v_1 h0u2 fun v_2 h0u3 =>
   ref01uDiv r.2.2 v_1 h0u3 fun v_3 h0u4 =>
   Q (r.1, v_2.1, v_3.1) h0u4
  )
def ref01uLimbs (x0 : Sl) (h : Heap) (Q : Sl → Heap → Prop) : Prop :=
  new [] h fun a h0 =>
  Let ((⟨some a, 0, 0⟩ : Sl) : Sl) fun out =>
  Let (IntKind.wrap .i64 (((x0.len : Nat) : Int) - 1) : Int) fun i =>
  loop (fun (s0 : Sl × Int) h0u1 (K0 : (Sl × Int) → Heap → Prop) =>
   iteB (decide (s0.2 ≥ 0)) (
    seq (fun (K0u1 : Sl → Heap → Prop) =>
     idxS x0 s0.2 1 fun a_1 =>
     Lift.load (Value.int .i64) a_1 h0u1 fun v_1 =>
     Let (IntKind.wrap .u64 v_1 : Int) fun carry =>
     loop (fun (s0u1 : Int × Int) h0u3 (K0u2 : (Int × Int) → Heap → Prop) =>
      iteB (decide (s0u1.2 < ((s0.1.len : Nat) : Int))) (
       idxS s0.1 s0u1.2 1 fun a_2 =>
       Lift.load (Value.int .u32) a_2 h0u3 fun v_2 =>
       Let (IntKind.wrap .u64 ((IntKind.wrap .u64 ((IntKind.wrap .u64 v_2) * 10)) + s0u1.1) : Int) fun n =>
       idxS s0.1 s0u1.2 1 fun a_3 =>
       Lift.store a_3 (Value.int .u32 (IntKind.wrap .u32 (Int.tmod n 4294967296))) h0u3 fun h0u4 =>
       Let (IntKind.wrap .u64 (Int.tdiv n 4294967296) : Int) fun carry_1 =>
       Let (IntKind.wrap .i64 (s0u1.2 + 1) : Int) fun k =>
       K0u2 (carry_1, k) h0u4
      ) (
       iteB (decide (s0u1.1 > 0)) (
        new [Value.int .u32 (IntKind.wrap .u32 s0u1.1)] h0u3 fun a_4 h0u5 =>
        appendS 1 4 s0.1 (⟨some a_4, 1, 1⟩ : Sl) h0u5 fun v_4 h0u6 =>
        K0u1 v_4 h0u6
       ) (
        K0u1 s0.1 h0u3
       )
      )
     ) (carry, 0) h0u1
    ) (fun t0 h0u2 =>
     Let (IntKind.wrap .i64 (s0.2 - 1) : Int) fun i_1 =>
     K0 (t0, i_1) h0u2
    )
   ) (
    Q s0.1 h0u1
   )
  ) (out, i) h0
def ref02uForm (r : Bool × Sl × Sl) (h : Heap) (Q : (Bool × Sl × Sl) → Heap → Prop) : Prop :=
  mem h fun h0 =>
  ref02uLow (r.1, r.2.1, r.2.2) h0 fun v h0u1 =>
  seq (fun (K0 : (Bool × Sl × Sl) → Heap → Prop) =>
   mem h0u1 fun h0u3 =>
   ref01uLimbs v.2.1 h0u3 fun v_2 h0u6 =>
   mem h0u6 fun h0u7 =>
   K0 (v.1, v_2, Sl.nil) h0u7
  ) (fun t0 h0u2 =>
   seq (fun (K0u1 : (Bool × Sl × Sl) → Heap → Prop) =>
    seq (fun (K0u2 : Bool → Heap → Prop) =>
     iteB (((v.2.2.len : Nat) : Int) != 1) (
      K0u2 true h0u2
     ) (
      idxS v.2.2 0 1 fun a =>
      Lift.load (Value.int .i64) a h0u2 fun v_3 =>
      K0u2 (v_3 != 1) h0u2
     )
    ) (fun t0u2 h0u9 =>
     iteB t0u2 (
      ref01uLimbs v.2.2 h0u9 fun v_4 h0u10 =>
      K0u1 (t0.1, t0.2.1, v_4) h0u10
     ) (
      K0u1 (t0.1, t0.2.1, t0.2.2) h0u9
     )
    )
   ) (fun t0u1 h0u8 =>
    Q (t0u1.1, t0u1.2.1, t0u1.2.2) h0u8
   )
  )
def ref01uSame (a : Sl) (b : Sl) (h : Heap) (Q : Bool → Heap → Prop) : Prop :=
  iteB (((a.len : Nat) : Int) != ((b.len : Nat) : Int)) (
   Q false h
  ) (
   loop (fun (s0 : Int) h0 (K0 : Int → Heap → Prop) =>
    iteB (decide (s0 < ((a.len : Nat) : Int))) (
     idxS a s0 1 fun a_1 =>
     Lift.load (Value.int .u32) a_1 h0 fun v =>
     idxS b s0 1 fun a_2 =>
     Lift.load (Value.int .u32) a_2 h0 fun v_1 =>
     iteB (v != v_1) (
      Q false h0
     ) (
      Let (IntKind.wrap .i64 (s0 + 1) : Int) fun i =>
      K0 i h0
     )
    ) (
     Q true h0
    )
   ) 0 h
  )
def ref02uSame (x0 : Bool × Sl × Sl) (y : Bool × Sl × Sl) (h : Heap) (Q : Bool → Heap → Prop) : Prop :=
  mem h fun h0 =>
  seq (fun (K0 : Bool → Heap → Prop) =>
   iteB (x0.1 == y.1) (
    ref01uSame x0.2.1 y.2.1 h0 fun v h0u2 =>
    iteB v (
     ref01uSame x0.2.2 y.2.2 h0u2 fun v_1 h0u3 =>
     K0 v_1 h0u3
    ) (
     K0 false h0u2
    )
   ) (
    K0 false h0
   )
  ) (fun t0 h0u1 =>
   Q t0 h0u1
  )
def ref02uRight (x0 : Bool × Sl × Sl) (h : Heap) (Q : Bool → Heap → Prop) : Prop :=
  mem h fun h0 =>
  seq (fun (K0 : Bool → Heap → Prop) =>
   iteB (decide (((x0.2.1.len : Nat) : Int) > 0)) (
    idxS x0.2.1 (IntKind.wrap .i64 (((x0.2.1.len : Nat) : Int) - 1)) 1 fun a =>
    Lift.load (Value.int .u32) a h0 fun v =>
    iteB (v == 0) (
     K0 true h0
    ) (
     iteB (decide (((x0.2.2.len : Nat) : Int) > 0)) (
      idxS x0.2.2 (IntKind.wrap .i64 (((x0.2.2.len : Nat) : Int) - 1)) 1 fun a_1 =>
      Lift.load (Value.int .u32) a_1 h0 fun v_1 =>
      iteB (v_1 == 0) (
       K0 true h0
      ) (
       iteB (((x0.2.1.len : Nat) : Int) == 0) (
        K0 x0.1 h0
       ) (
        K0 false h0
       )
      )
     ) (
      iteB (((x0.2.1.len : Nat) : Int) == 0) (
       K0 x0.1 h0
      ) (
       K0 false h0
      )
     )
    )
   ) (
    iteB (decide (((x0.2.2.len : Nat) : Int) > 0)) (
     idxS x0.2.2 (IntKind.wrap .i64 (((x0.2.2.len : Nat) : Int) - 1)) 1 fun a_2 =>
     Lift.load (Value.int .u32) a_2 h0 fun v_2 =>
     iteB (v_2 == 0) (
      K0 true h0
     ) (
      iteB (((x0.2.1.len : Nat) : Int) == 0) (
       K0 x0.1 h0
      ) (
       K0 false h0
      )
     )
    ) (
     iteB (((x0.2.1.len : Nat) : Int) == 0) (
      K0 x0.1 h0
     ) (
      K0 false h0
     )
    )
   )
  ) (fun t0 h0u1 =>
   iteB t0 (
    Q false h0u1
   ) (
    ref02uOf (x0.1, x0.2.1, x0.2.2) h0u1 fun v_3 h0u2 =>
    ref02uForm (v_3.1, v_3.2.1, v_3.2.2) h0u2 fun v_4 h0u3 =>
    ref02uSame (x0.1, x0.2.1, x0.2.2) (v_4.1, v_4.2.1, v_4.2.2) h0u3 fun v_5 h0u4 =>
    Q v_5 h0u4
   )
  )
def ratio_over (x0 : Bool × Sl) (n : Sl) (h : Heap) (Q : (Bool × Sl) → Heap → Prop) : Prop :=
  mem h fun h0 =>
  ratio_free h0 fun v h0u1 =>
  nat_Bench_Mul v x0.2 n h0u1 fun v_1 h0u2 =>
  Q (x0.1, v_1) h0u2
def ratio_cross (x0 : Bool × Sl × Sl) (y : Bool × Sl × Sl) (h : Heap) (Q : ((Bool × Sl) × (Bool × Sl)) → Heap → Prop) : Prop :=
  mem h fun h0 =>
  ratio_den (y.1, y.2.1, y.2.2) h0 fun v h0u1 =>
  ratio_over (x0.1, x0.2.1) v h0u1 fun v_1 h0u2 =>
  ratio_den (x0.1, x0.2.1, x0.2.2) h0u2 fun v_2 h0u3 =>
  ratio_over (y.1, y.2.1) v_2 h0u3 fun v_3 h0u4 =>
  Q ((v_1.1, v_1.2), (v_3.1, v_3.2)) h0u4
def nat_Bench_Sub (b : (Option Addr)) (x0 : Sl) (y : Sl) (h : Heap) (Q : Sl → Heap → Prop) : Prop :=
  nat_Cmp x0 y h fun v h0 =>
  iteB (decide (v < 0)) (
   Q Sl.nil h0
  ) (
   nat_trim y h0 fun v_1 h0u1 =>
   nat_minus x0 v_1 h0u1 fun v_2 h0u2 =>
   nat_Bench_fit b v_2 h0u2 fun v_3 h0u3 =>
   Q v_3 h0u3
  )
def ratio_sum (x0 : Bool × Sl) (y : Bool × Sl) (h : Heap) (Q : (Bool × Sl) → Heap → Prop) : Prop :=
  mem h fun h0 =>
  ratio_free h0 fun v h0u1 =>
  iteB (x0.1 == y.1) (
   nat_Bench_Add v x0.2 y.2 h0u1 fun v_1 h0u2 =>
   Q (x0.1, v_1) h0u2
  ) (
   nat_Cmp x0.2 y.2 h0u1 fun v_2 h0u3 =>
   iteB (decide (v_2 ≥ 0)) (
    nat_Bench_Sub v x0.2 y.2 h0u3 fun v_3 h0u4 =>
    Q (x0.1, v_3) h0u4
   ) (
    nat_Bench_Sub v y.2 x0.2 h0u3 fun v_4 h0u5 =>
    Q (y.1, v_4) h0u5
   )
  )
def ratio_Add (b : (Option Addr)) (x0 : Bool × Sl × Sl) (y : Bool × Sl × Sl) (h : Heap) (Q : (Bool × Sl × Sl) → Heap → Prop) : Prop :=
  mem h fun h0 =>
  ratio_cross (x0.1, x0.2.1, x0.2.2) (y.1, y.2.1, y.2.2) h0 fun v h0u1 =>
  ratio_sum (v.1.1, v.1.2) (v.2.1, v.2.2) h0u1 fun v_1 h0u2 =>
  mem h0u2 fun h0u3 =>
  ratio_free h0u3 fun v_2 h0u4 =>
  ratio_den (x0.1, x0.2.1, x0.2.2) h0u4 fun v_3 h0u5 =>
  ratio_den (y.1, y.2.1, y.2.2) h0u5 fun v_4 h0u6 =>
  nat_Bench_Mul v_2 v_3 v_4 h0u6 fun v_5 h0u7 =>
  ratio_form v_1.1 v_1.2 v_5 h0u7 fun v_6 h0u8 =>
  ratio_fit b (v_6.1, v_6.2.1, v_6.2.2) h0u8 fun v_7 h0u9 =>
  Q (v_7.1, v_7.2.1, v_7.2.2) h0u9
def law02uRatioTold_c1 (b : (Option Addr)) (c0 : Addr) (c1 : Addr) (h : Heap) (Q : (Bool × Sl × Sl) → Heap → Prop) : Prop :=
  mem h fun h0 =>
  loadS C_bool_sl_sl 3 c0 h0 fun v =>
  loadS C_bool_sl_sl 3 c1 h0 fun v_1 =>
  ratio_Add b (v.1, v.2.1, v.2.2) (v_1.1, v_1.2.1, v_1.2.2) h0 fun v_2 h0u1 =>
  Q (v_2.1, v_2.2.1, v_2.2.2) h0u1
def ref01uMul (x0 : Sl) (y : Sl) (h : Heap) (Q : Sl → Heap → Prop) : Prop :=
  Let (IntKind.wrap .i64 ((IntKind.wrap .i64 (((x0.len : Nat) : Int) + ((y.len : Nat) : Int))) + 1) : Int) fun t15 =>
  mkS [Value.int .i64 0] 8 t15 t15 h fun v h0 =>
  loop (fun (s0 : Int) h0u1 (K0 : Int → Heap → Prop) =>
   iteB (decide (s0 < ((x0.len : Nat) : Int))) (
    loop (fun (s0u1 : Int × Int) h0u2 (K0u1 : (Int × Int) → Heap → Prop) =>
     seq (fun (K0u2 : Bool → Heap → Prop) =>
      iteB (decide (s0u1.2 < ((y.len : Nat) : Int))) (
       K0u2 true h0u2
      ) (
       K0u2 (decide (s0u1.1 > 0)) h0u2
      )
     ) (fun t0 h0u3 =>
      iteB t0 (
       idxS v (IntKind.wrap .i64 (s0 + s0u1.2)) 1 fun a =>
       Lift.load (Value.int .i64) a h0u3 fun v_1 =>
       Let (IntKind.wrap .i64 (v_1 + s0u1.1) : Int) fun n =>
       seq (fun (K0u3 : Int → Heap → Prop) =>
        iteB (decide (s0u1.2 < ((y.len : Nat) : Int))) (
         idxS x0 s0 1 fun a_1 =>
         Lift.load (Value.int .i64) a_1 h0u3 fun v_2 =>
         idxS y s0u1.2 1 fun a_2 =>
         Lift.load (Value.int .i64) a_2 h0u3 fun v_3 =>
         Let (IntKind.wrap .i64 (n + (IntKind.wrap .i64 (v_2 * v_3))) : Int) fun n_1 =>
         K0u3 n_1 h0u3
        ) (
         K0u3 n h0u3
        )
       ) (fun t0u1 h0u4 =>
        idxS v (IntKind.wrap .i64 (s0 + s0u1.2)) 1 fun a_3 =>
        Lift.store a_3 (Value.int .i64 (Int.tmod t0u1 10)) h0u4 fun h0u5 =>
        Let (IntKind.wrap .i64 (Int.tdiv t0u1 10) : Int) fun carry =>
        Let (IntKind.wrap .i64 (s0u1.2 + 1) : Int) fun k =>
        K0u1 (carry, k) h0u5
       )
      ) (
       Let (IntKind.wrap .i64 (s0 + 1) : Int) fun i =>
       K0 i h0u3
      )
     )
    ) (0, 0) h0u1
   ) (
    ref01uCut v h0u1 fun v_4 h0u6 =>
    Q v_4 h0u6
   )
  ) 0 h0
def ref01uAdd (x0 : Sl) (y : Sl) (h : Heap) (Q : Sl → Heap → Prop) : Prop :=
  new [] h fun a h0 =>
  Let ((⟨some a, 0, 0⟩ : Sl) : Sl) fun out =>
  loop (fun (s0 : Sl × Int × Int) h0u1 (K0 : (Sl × Int × Int) → Heap → Prop) =>
   seq (fun (K0u1 : Bool → Heap → Prop) =>
    iteB (decide (s0.2.2 < ((x0.len : Nat) : Int))) (
     K0u1 true h0u1
    ) (
     iteB (decide (s0.2.2 < ((y.len : Nat) : Int))) (
      K0u1 true h0u1
     ) (
      K0u1 (decide (s0.2.1 > 0)) h0u1
     )
    )
   ) (fun t0 h0u2 =>
    iteB t0 (
     seq (fun (K0u2 : Int → Heap → Prop) =>
      iteB (decide (s0.2.2 < ((x0.len : Nat) : Int))) (
       idxS x0 s0.2.2 1 fun a_1 =>
       Lift.load (Value.int .i64) a_1 h0u2 fun v_1 =>
       Let (IntKind.wrap .i64 (s0.2.1 + v_1) : Int) fun n =>
       K0u2 n h0u2
      ) (
       K0u2 s0.2.1 h0u2
      )
     ) (fun t0u1 h0u3 =>
      seq (fun (K0u3 : Int → Heap → Prop) =>
       iteB (decide (s0.2.2 < ((y.len : Nat) : Int))) (
        idxS y s0.2.2 1 fun a_2 =>
        Lift.load (Value.int .i64) a_2 h0u3 fun v_2 =>
        Let (IntKind.wrap .i64 (t0u1 + v_2) : Int) fun n_1 =>
        K0u3 n_1 h0u3
       ) (
        K0u3 t0u1 h0u3
       )
      ) (fun t0u2 h0u4 =>
       new [Value.int .i64 (Int.tmod t0u2 10)] h0u4 fun a_3 h0u5 =>
       appendS 1 8 s0.1 (⟨some a_3, 1, 1⟩ : Sl) h0u5 fun v_4 h0u6 =>
       Let (IntKind.wrap .i64 (Int.tdiv t0u2 10) : Int) fun carry =>
       Let (IntKind.wrap .i64 (s0.2.2 + 1) : Int) fun i =>
       K0 (v_4, carry, i) h0u6
      )
     )
    ) (
     ref01uCut s0.1 h0u2 fun v_5 h0u7 =>
     Q v_5 h0u7
    )
   )
  ) (out, 0, 0) h0
def ref02uAdd (x0 : Bool × Sl × Sl) (y : Bool × Sl × Sl) (h : Heap) (Q : (Bool × Sl × Sl) → Heap → Prop) : Prop :=
  mem h fun h0 =>
  ref01uMul x0.2.1 y.2.2 h0 fun v h0u1 =>
  ref01uMul y.2.1 x0.2.2 h0u1 fun v_1 h0u2 =>
  ref01uMul x0.2.2 y.2.2 h0u2 fun v_2 h0u3 =>
  iteB (x0.1 == y.1) (
   ref01uAdd v v_1 h0u3 fun v_3 h0u4 =>
   ref02uLow (x0.1, v_3, v_2) h0u4 fun v_4 h0u5 =>
   Q (v_4.1, v_4.2.1, v_4.2.2) h0u5
  ) (
   ref01uCmp v v_1 h0u3 fun v_5 h0u6 =>
   iteB (decide (v_5 ≥ 0)) (
    ref01uSub v v_1 h0u6 fun v_6 h0u7 =>
    ref02uLow (x0.1, v_6, v_2) h0u7 fun v_7 h0u8 =>
    Q (v_7.1, v_7.2.1, v_7.2.2) h0u8
   ) (
    ref01uSub v_1 v h0u6 fun v_8 h0u9 =>
    ref02uLow (y.1, v_8, v_2) h0u9 fun v_9 h0u10 =>
    Q (v_9.1, v_9.2.1, v_9.2.2) h0u10
   )
  )
def ref02uFits (x0 : Bool × Sl × Sl) (limbs : Int) (h : Heap) (Q : Bool → Heap → Prop) : Prop :=
  mem h fun h0 =>
  seq (fun (K0 : Bool → Heap → Prop) =>
   iteB (decide (((x0.2.1.len : Nat) : Int) ≤ limbs)) (
    K0 (decide (((x0.2.2.len : Nat) : Int) ≤ limbs)) h0
   ) (
    K0 false h0
   )
  ) (fun t0 h0u1 =>
   Q t0 h0u1
  )
def ratio_Sub (b : (Option Addr)) (x0 : Bool × Sl × Sl) (y : Bool × Sl × Sl) (h : Heap) (Q : (Bool × Sl × Sl) → Heap → Prop) : Prop :=
  mem h fun h0 =>
  ratio_Neg (y.1, y.2.1, y.2.2) h0 fun v h0u1 =>
  ratio_Add b (x0.1, x0.2.1, x0.2.2) (v.1, v.2.1, v.2.2) h0u1 fun v_1 h0u2 =>
  Q (v_1.1, v_1.2.1, v_1.2.2) h0u2
def law02uRatioTold_c2 (b : (Option Addr)) (c0 : Addr) (c1 : Addr) (h : Heap) (Q : (Bool × Sl × Sl) → Heap → Prop) : Prop :=
  mem h fun h0 =>
  loadS C_bool_sl_sl 3 c0 h0 fun v =>
  loadS C_bool_sl_sl 3 c1 h0 fun v_1 =>
  ratio_Sub b (v.1, v.2.1, v.2.2) (v_1.1, v_1.2.1, v_1.2.2) h0 fun v_2 h0u1 =>
  Q (v_2.1, v_2.2.1, v_2.2.2) h0u1
def ref02uNeg (x0 : Bool × Sl × Sl) (h : Heap) (Q : (Bool × Sl × Sl) → Heap → Prop) : Prop :=
  mem h fun h0 =>
  seq (fun (K0 : (Bool × Sl × Sl) → Heap → Prop) =>
   iteB (!x0.1) (
    K0 (decide (((x0.2.1.len : Nat) : Int) > 0), x0.2.1, x0.2.2) h0
   ) (
    K0 (false, x0.2.1, x0.2.2) h0
   )
  ) (fun t0 h0u1 =>
   Q (t0.1, t0.2.1, t0.2.2) h0u1
  )
def ratio_Mul (b : (Option Addr)) (x0 : Bool × Sl × Sl) (y : Bool × Sl × Sl) (h : Heap) (Q : (Bool × Sl × Sl) → Heap → Prop) : Prop :=
  mem h fun h0 =>
  ratio_free h0 fun v h0u1 =>
  nat_Bench_Mul v x0.2.1 y.2.1 h0u1 fun v_1 h0u2 =>
  ratio_den (x0.1, x0.2.1, x0.2.2) h0u2 fun v_2 h0u3 =>
  ratio_den (y.1, y.2.1, y.2.2) h0u3 fun v_3 h0u4 =>
  nat_Bench_Mul v v_2 v_3 h0u4 fun v_4 h0u5 =>
  ratio_form (!(x0.1 == y.1)) v_1 v_4 h0u5 fun v_5 h0u6 =>
  ratio_fit b (v_5.1, v_5.2.1, v_5.2.2) h0u6 fun v_6 h0u7 =>
  Q (v_6.1, v_6.2.1, v_6.2.2) h0u7
def law02uRatioTold_c3 (b : (Option Addr)) (c0 : Addr) (c1 : Addr) (h : Heap) (Q : (Bool × Sl × Sl) → Heap → Prop) : Prop :=
  mem h fun h0 =>
  loadS C_bool_sl_sl 3 c0 h0 fun v =>
  loadS C_bool_sl_sl 3 c1 h0 fun v_1 =>
  ratio_Mul b (v.1, v.2.1, v.2.2) (v_1.1, v_1.2.1, v_1.2.2) h0 fun v_2 h0u1 =>
  Q (v_2.1, v_2.2.1, v_2.2.2) h0u1
def ref02uMul (x0 : Bool × Sl × Sl) (y : Bool × Sl × Sl) (h : Heap) (Q : (Bool × Sl × Sl) → Heap → Prop) : Prop :=
  mem h fun h0 =>
  ref01uMul x0.2.1 y.2.1 h0 fun v h0u1 =>
  ref01uMul x0.2.2 y.2.2 h0u1 fun v_1 h0u2 =>
  ref02uLow ((!(x0.1 == y.1)), v, v_1) h0u2 fun v_2 h0u3 =>
  Q (v_2.1, v_2.2.1, v_2.2.2) h0u3
def ratio_Div (b : (Option Addr)) (x0 : Bool × Sl × Sl) (y : Bool × Sl × Sl) (h : Heap) (Q : (Bool × Sl × Sl) → Heap → Prop) : Prop :=
  mem h fun h0 =>
  ratio_Sign (y.1, y.2.1, y.2.2) h0 fun v h0u1 =>
  iteB (v == 0) (
   Q (false, Sl.nil, Sl.nil) h0u1
  ) (
   ratio_free h0u1 fun v_1 h0u2 =>
   ratio_den (y.1, y.2.1, y.2.2) h0u2 fun v_2 h0u3 =>
   nat_Bench_Mul v_1 x0.2.1 v_2 h0u3 fun v_3 h0u4 =>
   ratio_den (x0.1, x0.2.1, x0.2.2) h0u4 fun v_4 h0u5 =>
   nat_Bench_Mul v_1 v_4 y.2.1 h0u5 fun v_5 h0u6 =>
   ratio_form (!(x0.1 == y.1)) v_3 v_5 h0u6 fun v_6 h0u7 =>
   ratio_fit b (v_6.1, v_6.2.1, v_6.2.2) h0u7 fun v_7 h0u8 =>
   Q (v_7.1, v_7.2.1, v_7.2.2) h0u8
  )
def law02uRatioTold_c4 (b : (Option Addr)) (c0 : Addr) (c1 : Addr) (h : Heap) (Q : (Bool × Sl × Sl) → Heap → Prop) : Prop :=
  mem h fun h0 =>
  loadS C_bool_sl_sl 3 c0 h0 fun v =>
  loadS C_bool_sl_sl 3 c1 h0 fun v_1 =>
  ratio_Div b (v.1, v.2.1, v.2.2) (v_1.1, v_1.2.1, v_1.2.2) h0 fun v_2 h0u1 =>
  Q (v_2.1, v_2.2.1, v_2.2.2) h0u1
def ref02uDiv (x0 : Bool × Sl × Sl) (y : Bool × Sl × Sl) (h : Heap) (Q : (Bool × Sl × Sl) → Heap → Prop) : Prop :=
  mem h fun h0 =>
  iteB (((y.2.1.len : Nat) : Int) == 0) (
   ref02uInt 0 h0 fun v h0u1 =>
   Q (v.1, v.2.1, v.2.2) h0u1
  ) (
   ref01uMul x0.2.1 y.2.2 h0 fun v_1 h0u2 =>
   ref01uMul x0.2.2 y.2.1 h0u2 fun v_2 h0u3 =>
   ref02uLow ((!(x0.1 == y.1)), v_1, v_2) h0u3 fun v_3 h0u4 =>
   Q (v_3.1, v_3.2.1, v_3.2.2) h0u4
  )
def ratio_Cmp (x0 : Bool × Sl × Sl) (y : Bool × Sl × Sl) (h : Heap) (Q : Int → Heap → Prop) : Prop :=
  mem h fun h0 =>
  ratio_cross (x0.1, x0.2.1, x0.2.2) (y.1, y.2.1, y.2.2) h0 fun v h0u1 =>
  mem h0u1 fun h0u2 =>
  ratio_sum (v.1.1, v.1.2) ((!v.2.1), v.2.2) h0u2 fun v_1 h0u3 =>
  mem h0u3 fun h0u4 =>
  iteB (((v_1.2.len : Nat) : Int) == 0) (
   Q 0 h0u4
  ) (
   iteB v_1.1 (
    Q (-1) h0u4
   ) (
    Q 1 h0u4
   )
  )
def ref02uCmp (x0 : Bool × Sl × Sl) (y : Bool × Sl × Sl) (h : Heap) (Q : Int → Heap → Prop) : Prop :=
  mem h fun h0 =>
  seq (fun (K0 : (Bool × Sl × Sl) → Heap → Prop) =>
   mem h0 fun h0u2 =>
   ref02uNeg (y.1, y.2.1, y.2.2) h0u2 fun v_3 h0u9 =>
   mem h0u9 fun h0u10 =>
   ref02uAdd (x0.1, x0.2.1, x0.2.2) (v_3.1, v_3.2.1, v_3.2.2) h0u10 fun v_4 h0u11 =>
   mem h0u11 fun h0u12 =>
   K0 (v_4.1, v_4.2.1, v_4.2.2) h0u12
  ) (fun t0 h0u1 =>
   iteB (((t0.2.1.len : Nat) : Int) == 0) (
    Q 0 h0u1
   ) (
    iteB t0.1 (
     Q (-1) h0u1
    ) (
     Q 1 h0u1
    )
   )
  )
def ref01uText (x0 : Sl) (h : Heap) (Q : ByteArray → Heap → Prop) : Prop :=
  new [] h fun a h0 =>
  Let ((⟨some a, 0, 0⟩ : Sl) : Sl) fun out =>
  Let (IntKind.wrap .i64 (((x0.len : Nat) : Int) - 1) : Int) fun i =>
  loop (fun (s0 : Sl × Int) h0u1 (K0 : (Sl × Int) → Heap → Prop) =>
   iteB (decide (s0.2 ≥ 0)) (
    idxS x0 s0.2 1 fun a_1 =>
    Lift.load (Value.int .i64) a_1 h0u1 fun v_1 =>
    new [Value.int .u8 (IntKind.wrap .u8 (IntKind.wrap .i64 (48 + v_1)))] h0u1 fun a_2 h0u2 =>
    appendS 1 1 s0.1 (⟨some a_2, 1, 1⟩ : Sl) h0u2 fun v_3 h0u3 =>
    Let (IntKind.wrap .i64 (s0.2 - 1) : Int) fun i_1 =>
    K0 (v_3, i_1) h0u3
   ) (
    iteB (((s0.1.len : Nat) : Int) == 0) (
     Q (ByteArray.mk #[48]) h0u1
    ) (
     strOf s0.1 h0u1 fun v_4 =>
     Q v_4 h0u1
    )
   )
  ) (out, i) h0
def ref02uText (r : Bool × Sl × Sl) (h : Heap) (Q : ByteArray → Heap → Prop) : Prop :=
  mem h fun h0 =>
  ref01uText r.2.1 h0 fun v h0u1 =>
  seq (fun (K0 : ByteArray → Heap → Prop) =>
   iteB r.1 (
    (((ByteArray.mk #[45]).size + v.size : Nat) : Int) ≤ 9223372036854775807 ∧
    Let (((ByteArray.mk #[45]) ++ v) : ByteArray) fun s0 =>
    K0 s0 h0u1
   ) (
    K0 v h0u1
   )
  ) (fun t0 h0u2 =>
   seq (fun (K0u1 : ByteArray → Heap → Prop) =>
    seq (fun (K0u2 : Bool → Heap → Prop) =>
     iteB (((r.2.2.len : Nat) : Int) != 1) (
      K0u2 true h0u2
     ) (
      idxS r.2.2 0 1 fun a =>
      Lift.load (Value.int .i64) a h0u2 fun v_1 =>
      K0u2 (v_1 != 1) h0u2
     )
    ) (fun t0u2 h0u4 =>
     iteB t0u2 (
      ((t0.size + (ByteArray.mk #[47]).size : Nat) : Int) ≤ 9223372036854775807 ∧
      ref01uText r.2.2 h0u4 fun v_2 h0u5 =>
      (((t0 ++ (ByteArray.mk #[47])).size + v_2.size : Nat) : Int) ≤ 9223372036854775807 ∧
      Let (((t0 ++ (ByteArray.mk #[47])) ++ v_2) : ByteArray) fun s0u1 =>
      K0u1 s0u1 h0u5
     ) (
      K0u1 t0 h0u4
     )
    )
   ) (fun t0u1 h0u3 =>
    Q t0u1 h0u3
   )
  )
def ref02uTerm (r : Bool × Sl × Sl) (h : Heap) (Q : ByteArray → Heap → Prop) : Prop :=
  mem h fun h0 =>
  ref01uText r.2.1 h0 fun v h0u1 =>
  ((v.size + (ByteArray.mk #[46, 48]).size : Nat) : Int) ≤ 9223372036854775807 ∧
  Let ((v ++ (ByteArray.mk #[46, 48])) : ByteArray) fun s0 =>
  seq (fun (K0 : ByteArray → Heap → Prop) =>
   seq (fun (K0u1 : Bool → Heap → Prop) =>
    iteB (((r.2.2.len : Nat) : Int) != 1) (
     K0u1 true h0u1
    ) (
     idxS r.2.2 0 1 fun a =>
     Lift.load (Value.int .i64) a h0u1 fun v_1 =>
     K0u1 (v_1 != 1) h0u1
    )
   ) (fun t0u1 h0u3 =>
    iteB t0u1 (
     (((ByteArray.mk #[40, 47, 32]).size + s0.size : Nat) : Int) ≤ 9223372036854775807 ∧
     ((((ByteArray.mk #[40, 47, 32]) ++ s0).size + (ByteArray.mk #[32]).size : Nat) : Int) ≤ 9223372036854775807 ∧
     ref01uText r.2.2 h0u3 fun v_2 h0u4 =>
     (((((ByteArray.mk #[40, 47, 32]) ++ s0) ++ (ByteArray.mk #[32])).size + v_2.size : Nat) : Int) ≤ 9223372036854775807 ∧
     ((((((ByteArray.mk #[40, 47, 32]) ++ s0) ++ (ByteArray.mk #[32])) ++ v_2).size + (ByteArray.mk #[46, 48, 41]).size : Nat) : Int) ≤ 9223372036854775807 ∧
     Let ((((((ByteArray.mk #[40, 47, 32]) ++ s0) ++ (ByteArray.mk #[32])) ++ v_2) ++ (ByteArray.mk #[46, 48, 41])) : ByteArray) fun s0u1 =>
     K0 s0u1 h0u4
    ) (
     K0 s0 h0u3
    )
   )
  ) (fun t0 h0u2 =>
   seq (fun (K0u2 : ByteArray → Heap → Prop) =>
    iteB r.1 (
     (((ByteArray.mk #[40, 45, 32]).size + t0.size : Nat) : Int) ≤ 9223372036854775807 ∧
     ((((ByteArray.mk #[40, 45, 32]) ++ t0).size + (ByteArray.mk #[41]).size : Nat) : Int) ≤ 9223372036854775807 ∧
     Let ((((ByteArray.mk #[40, 45, 32]) ++ t0) ++ (ByteArray.mk #[41])) : ByteArray) fun s0u2 =>
     K0u2 s0u2 h0u2
    ) (
     K0u2 t0 h0u2
    )
   ) (fun t0u2 h0u5 =>
    Q t0u2 h0u5
   )
  )
def law02utold__law02uRatioTold_c1 (limbs : Int) (do_c : Addr) (do_c_1 : Addr) (want : Bool × Sl × Sl) (h : Heap) (Q : Bool → Heap → Prop) : Prop :=
  mem h fun h0 =>
  nat_New limbs h0 fun v h0u1 =>
  seq (fun (K0 : (Bool × Sl × Sl × Bool × Sl × Sl) → Heap → Prop) =>
   mem h0u1 fun h0u3 =>
   law02uRatioTold_c1 v do_c do_c_1 h0u3 fun v_10 h0u22 =>
   mem h0u22 fun h0u23 =>
   ref02uForm (want.1, want.2.1, want.2.2) h0u23 fun v_11 h0u24 =>
   mem h0u24 fun h0u25 =>
   K0 (v_10.1, v_10.2.1, v_10.2.2, v_11.1, v_11.2.1, v_11.2.2) h0u25
  ) (fun t0 h0u2 =>
   ref02uFits (t0.2.2.2.1, t0.2.2.2.2.1, t0.2.2.2.2.2) (if 1 > limbs then 1 else limbs) h0u2 fun v_17 h0u36 =>
   iteB (!v_17) (
    seq (fun (K0u1 : Bool → Heap → Prop) =>
     nat_Bench_Over v h0u36 fun v_18 h0u38 =>
     iteB v_18 (
      ref02uSame (t0.1, t0.2.1, t0.2.2.1) (false, Sl.nil, Sl.nil) h0u38 fun v_19 h0u39 =>
      K0u1 v_19 h0u39
     ) (
      K0u1 false h0u38
     )
    ) (fun t0u1 h0u37 =>
     Q t0u1 h0u37
    )
   ) (
    seq (fun (K0u2 : Bool → Heap → Prop) =>
     nat_Bench_Over v h0u36 fun v_20 h0u41 =>
     iteB (!v_20) (
      ref02uSame (t0.1, t0.2.1, t0.2.2.1) (t0.2.2.2.1, t0.2.2.2.2.1, t0.2.2.2.2.2) h0u41 fun v_21 h0u42 =>
      K0u2 v_21 h0u42
     ) (
      K0u2 false h0u41
     )
    ) (fun t0u2 h0u40 =>
     Q t0u2 h0u40
    )
   )
  )
def law02utold__law02uRatioTold_c2 (limbs : Int) (do_c : Addr) (do_c_1 : Addr) (want : Bool × Sl × Sl) (h : Heap) (Q : Bool → Heap → Prop) : Prop :=
  mem h fun h0 =>
  nat_New limbs h0 fun v h0u1 =>
  seq (fun (K0 : (Bool × Sl × Sl × Bool × Sl × Sl) → Heap → Prop) =>
   mem h0u1 fun h0u3 =>
   law02uRatioTold_c2 v do_c do_c_1 h0u3 fun v_10 h0u22 =>
   mem h0u22 fun h0u23 =>
   ref02uForm (want.1, want.2.1, want.2.2) h0u23 fun v_11 h0u24 =>
   mem h0u24 fun h0u25 =>
   K0 (v_10.1, v_10.2.1, v_10.2.2, v_11.1, v_11.2.1, v_11.2.2) h0u25
  ) (fun t0 h0u2 =>
   ref02uFits (t0.2.2.2.1, t0.2.2.2.2.1, t0.2.2.2.2.2) (if 1 > limbs then 1 else limbs) h0u2 fun v_17 h0u36 =>
   iteB (!v_17) (
    seq (fun (K0u1 : Bool → Heap → Prop) =>
     nat_Bench_Over v h0u36 fun v_18 h0u38 =>
     iteB v_18 (
      ref02uSame (t0.1, t0.2.1, t0.2.2.1) (false, Sl.nil, Sl.nil) h0u38 fun v_19 h0u39 =>
      K0u1 v_19 h0u39
     ) (
      K0u1 false h0u38
     )
    ) (fun t0u1 h0u37 =>
     Q t0u1 h0u37
    )
   ) (
    seq (fun (K0u2 : Bool → Heap → Prop) =>
     nat_Bench_Over v h0u36 fun v_20 h0u41 =>
     iteB (!v_20) (
      ref02uSame (t0.1, t0.2.1, t0.2.2.1) (t0.2.2.2.1, t0.2.2.2.2.1, t0.2.2.2.2.2) h0u41 fun v_21 h0u42 =>
      K0u2 v_21 h0u42
     ) (
      K0u2 false h0u41
     )
    ) (fun t0u2 h0u40 =>
     Q t0u2 h0u40
    )
   )
  )
def law02utold__law02uRatioTold_c3 (limbs : Int) (do_c : Addr) (do_c_1 : Addr) (want : Bool × Sl × Sl) (h : Heap) (Q : Bool → Heap → Prop) : Prop :=
  mem h fun h0 =>
  nat_New limbs h0 fun v h0u1 =>
  seq (fun (K0 : (Bool × Sl × Sl × Bool × Sl × Sl) → Heap → Prop) =>
   mem h0u1 fun h0u3 =>
   law02uRatioTold_c3 v do_c do_c_1 h0u3 fun v_10 h0u22 =>
   mem h0u22 fun h0u23 =>
   ref02uForm (want.1, want.2.1, want.2.2) h0u23 fun v_11 h0u24 =>
   mem h0u24 fun h0u25 =>
   K0 (v_10.1, v_10.2.1, v_10.2.2, v_11.1, v_11.2.1, v_11.2.2) h0u25
  ) (fun t0 h0u2 =>
   ref02uFits (t0.2.2.2.1, t0.2.2.2.2.1, t0.2.2.2.2.2) (if 1 > limbs then 1 else limbs) h0u2 fun v_17 h0u36 =>
   iteB (!v_17) (
    seq (fun (K0u1 : Bool → Heap → Prop) =>
     nat_Bench_Over v h0u36 fun v_18 h0u38 =>
     iteB v_18 (
      ref02uSame (t0.1, t0.2.1, t0.2.2.1) (false, Sl.nil, Sl.nil) h0u38 fun v_19 h0u39 =>
      K0u1 v_19 h0u39
     ) (
      K0u1 false h0u38
     )
    ) (fun t0u1 h0u37 =>
     Q t0u1 h0u37
    )
   ) (
    seq (fun (K0u2 : Bool → Heap → Prop) =>
     nat_Bench_Over v h0u36 fun v_20 h0u41 =>
     iteB (!v_20) (
      ref02uSame (t0.1, t0.2.1, t0.2.2.1) (t0.2.2.2.1, t0.2.2.2.2.1, t0.2.2.2.2.2) h0u41 fun v_21 h0u42 =>
      K0u2 v_21 h0u42
     ) (
      K0u2 false h0u41
     )
    ) (fun t0u2 h0u40 =>
     Q t0u2 h0u40
    )
   )
  )
def law02utold__law02uRatioTold_c4 (limbs : Int) (do_c : Addr) (do_c_1 : Addr) (want : Bool × Sl × Sl) (h : Heap) (Q : Bool → Heap → Prop) : Prop :=
  mem h fun h0 =>
  nat_New limbs h0 fun v h0u1 =>
  seq (fun (K0 : (Bool × Sl × Sl × Bool × Sl × Sl) → Heap → Prop) =>
   mem h0u1 fun h0u3 =>
   law02uRatioTold_c4 v do_c do_c_1 h0u3 fun v_10 h0u22 =>
   mem h0u22 fun h0u23 =>
   ref02uForm (want.1, want.2.1, want.2.2) h0u23 fun v_11 h0u24 =>
   mem h0u24 fun h0u25 =>
   K0 (v_10.1, v_10.2.1, v_10.2.2, v_11.1, v_11.2.1, v_11.2.2) h0u25
  ) (fun t0 h0u2 =>
   ref02uFits (t0.2.2.2.1, t0.2.2.2.2.1, t0.2.2.2.2.2) (if 1 > limbs then 1 else limbs) h0u2 fun v_17 h0u36 =>
   iteB (!v_17) (
    seq (fun (K0u1 : Bool → Heap → Prop) =>
     nat_Bench_Over v h0u36 fun v_18 h0u38 =>
     iteB v_18 (
      ref02uSame (t0.1, t0.2.1, t0.2.2.1) (false, Sl.nil, Sl.nil) h0u38 fun v_19 h0u39 =>
      K0u1 v_19 h0u39
     ) (
      K0u1 false h0u38
     )
    ) (fun t0u1 h0u37 =>
     Q t0u1 h0u37
    )
   ) (
    seq (fun (K0u2 : Bool → Heap → Prop) =>
     nat_Bench_Over v h0u36 fun v_20 h0u41 =>
     iteB (!v_20) (
      ref02uSame (t0.1, t0.2.1, t0.2.2.1) (t0.2.2.2.1, t0.2.2.2.2.1, t0.2.2.2.2.2) h0u41 fun v_21 h0u42 =>
      K0u2 v_21 h0u42
     ) (
      K0u2 false h0u41
     )
    ) (fun t0u2 h0u40 =>
     Q t0u2 h0u40
    )
   )
  )
def law02uRatioTold (limbs : Int) (x0 : Bool × Sl × Sl) (y : Bool × Sl × Sl) (h : Heap) (Q : Bool → Heap → Prop) : Prop :=
  new [Value.bool x0.1, Sl.toV x0.2.1, Sl.toV x0.2.2] h fun x0u1 h0 =>
  new [Value.bool y.1, Sl.toV y.2.1, Sl.toV y.2.2] h0 fun y_1 h0u1 =>
  law02uspeaks h0u1 fun v h0u2 =>
  iteB (!v) (
   Q false h0u2
  ) (
   seq (fun (K0 : Bool → Heap → Prop) =>
    loadS C_bool_sl_sl 3 x0u1 h0u2 fun v_1 =>
    loadS C_bool_sl_sl 3 y_1 h0u2 fun v_2 =>
    new [Value.bool v_1.1, Sl.toV v_1.2.1, Sl.toV v_1.2.2, Value.bool v_2.1, Sl.toV v_2.2.1, Sl.toV v_2.2.2] h0u2 fun a h0u4 =>
    law02uGreat (⟨some a, 2, 2⟩ : Sl) h0u4 fun v_4 h0u5 =>
    iteB v_4 (
     K0 true h0u5
    ) (
     loadS C_bool_sl_sl 3 x0u1 h0u5 fun v_5 =>
     ref02uRight (v_5.1, v_5.2.1, v_5.2.2) h0u5 fun v_6 h0u6 =>
     iteB (!v_6) (
      K0 true h0u6
     ) (
      loadS C_bool_sl_sl 3 y_1 h0u6 fun v_7 =>
      ref02uRight (v_7.1, v_7.2.1, v_7.2.2) h0u6 fun v_8 h0u7 =>
      K0 (!v_8) h0u7
     )
    )
   ) (fun t0 h0u3 =>
    iteB t0 (
     Q true h0u3
    ) (
     seq (fun (K0u1 : (Bool × Sl × Sl × Bool × Sl × Sl) → Heap → Prop) =>
      loadS C_bool_sl_sl 3 x0u1 h0u3 fun v_9 =>
      loadS C_bool_sl_sl 3 y_1 h0u3 fun v_10 =>
      mem h0u3 fun h0u9 =>
      ref02uOf (v_9.1, v_9.2.1, v_9.2.2) h0u9 fun v_20 h0u28 =>
      (cells? h0u28 y_1 3 0 = some [Value.bool v_10.1, Sl.toV v_10.2.1, Sl.toV v_10.2.2]) ∧
      mem h0u28 fun h0u29 =>
      ref02uOf (v_10.1, v_10.2.1, v_10.2.2) h0u29 fun v_21 h0u30 =>
      mem h0u30 fun h0u31 =>
      K0u1 (v_20.1, v_20.2.1, v_20.2.2, v_21.1, v_21.2.1, v_21.2.2) h0u31
     ) (fun t0u1 h0u8 =>
      seq (fun (K0u2 : Bool → Heap → Prop) =>
       ref02uAdd (t0u1.1, t0u1.2.1, t0u1.2.2.1) (t0u1.2.2.2.1, t0u1.2.2.2.2.1, t0u1.2.2.2.2.2) h0u8 fun v_27 h0u43 =>
       law02utold__law02uRatioTold_c1 limbs x0u1 y_1 (v_27.1, v_27.2.1, v_27.2.2) h0u43 fun v_28 h0u44 =>
       iteB v_28 (
        ref02uNeg (t0u1.2.2.2.1, t0u1.2.2.2.2.1, t0u1.2.2.2.2.2) h0u44 fun v_29 h0u45 =>
        ref02uAdd (t0u1.1, t0u1.2.1, t0u1.2.2.1) (v_29.1, v_29.2.1, v_29.2.2) h0u45 fun v_30 h0u46 =>
        law02utold__law02uRatioTold_c2 limbs x0u1 y_1 (v_30.1, v_30.2.1, v_30.2.2) h0u46 fun v_31 h0u47 =>
        iteB v_31 (
         ref02uMul (t0u1.1, t0u1.2.1, t0u1.2.2.1) (t0u1.2.2.2.1, t0u1.2.2.2.2.1, t0u1.2.2.2.2.2) h0u47 fun v_32 h0u48 =>
         law02utold__law02uRatioTold_c3 limbs x0u1 y_1 (v_32.1, v_32.2.1, v_32.2.2) h0u48 fun v_33 h0u49 =>
         iteB v_33 (
          ref02uDiv (t0u1.1, t0u1.2.1, t0u1.2.2.1) (t0u1.2.2.2.1, t0u1.2.2.2.2.1, t0u1.2.2.2.2.2) h0u49 fun v_34 h0u50 =>
          law02utold__law02uRatioTold_c4 limbs x0u1 y_1 (v_34.1, v_34.2.1, v_34.2.2) h0u50 fun v_35 h0u51 =>
          K0u2 v_35 h0u51
         ) (
          K0u2 false h0u49
         )
        ) (
         K0u2 false h0u47
        )
       ) (
        K0u2 false h0u44
       )
      ) (fun t0u2 h0u42 =>
       seq (fun (K0u3 : Bool → Heap → Prop) =>
        iteB t0u2 (
         loadS C_bool_sl_sl 3 x0u1 h0u42 fun v_36 =>
         loadS C_bool_sl_sl 3 y_1 h0u42 fun v_37 =>
         ratio_Cmp (v_36.1, v_36.2.1, v_36.2.2) (v_37.1, v_37.2.1, v_37.2.2) h0u42 fun v_38 h0u53 =>
         ref02uCmp (t0u1.1, t0u1.2.1, t0u1.2.2.1) (t0u1.2.2.2.1, t0u1.2.2.2.2.1, t0u1.2.2.2.2.2) h0u53 fun v_39 h0u54 =>
         iteB (v_38 == v_39) (
          loadS C_bool_sl_sl 3 x0u1 h0u54 fun v_40 =>
          ratio_Sign (v_40.1, v_40.2.1, v_40.2.2) h0u54 fun v_41 h0u55 =>
          ref02uInt 0 h0u55 fun v_42 h0u56 =>
          ref02uCmp (t0u1.1, t0u1.2.1, t0u1.2.2.1) (v_42.1, v_42.2.1, v_42.2.2) h0u56 fun v_43 h0u57 =>
          iteB (v_41 == v_43) (
           loadS C_bool_sl_sl 3 x0u1 h0u57 fun v_44 =>
           ratio_Neg (v_44.1, v_44.2.1, v_44.2.2) h0u57 fun v_45 h0u58 =>
           ref02uNeg (t0u1.1, t0u1.2.1, t0u1.2.2.1) h0u58 fun v_46 h0u59 =>
           ref02uForm (v_46.1, v_46.2.1, v_46.2.2) h0u59 fun v_47 h0u60 =>
           ref02uSame (v_45.1, v_45.2.1, v_45.2.2) (v_47.1, v_47.2.1, v_47.2.2) h0u60 fun v_48 h0u61 =>
           iteB v_48 (
            loadS C_bool_sl_sl 3 x0u1 h0u61 fun v_49 =>
            ratio_Text (v_49.1, v_49.2.1, v_49.2.2) h0u61 fun v_50 h0u62 =>
            ref02uText (t0u1.1, t0u1.2.1, t0u1.2.2.1) h0u62 fun v_51 h0u63 =>
            iteB (v_50.toList == v_51.toList) (
             loadS C_bool_sl_sl 3 x0u1 h0u63 fun v_52 =>
             ratio_Term (v_52.1, v_52.2.1, v_52.2.2) h0u63 fun v_53 h0u64 =>
             ref02uTerm (t0u1.1, t0u1.2.1, t0u1.2.2.1) h0u64 fun v_54 h0u65 =>
             K0u3 (v_53.toList == v_54.toList) h0u65
            ) (
             K0u3 false h0u63
            )
           ) (
            K0u3 false h0u61
           )
          ) (
           K0u3 false h0u57
          )
         ) (
          K0u3 false h0u54
         )
        ) (
         K0u3 false h0u42
        )
       ) (fun t0u3 h0u52 =>
        Q t0u3 h0u52
       )
      )
     )
    )
   )
  )
def C_bool_sl_sl_bool_sl_sl (x : Bool × Sl × Sl × Bool × Sl × Sl) : List Value := [Value.bool x.1, Sl.toV x.2.1, Sl.toV x.2.2.1, Value.bool x.2.2.2.1, Sl.toV x.2.2.2.2.1, Sl.toV x.2.2.2.2.2]
def C_bool_sl_sl_bool_sl_sl_bool_sl_sl_bool_sl_sl (x : Bool × Sl × Sl × Bool × Sl × Sl × Bool × Sl × Sl × Bool × Sl × Sl) : List Value := [Value.bool x.1, Sl.toV x.2.1, Sl.toV x.2.2.1, Value.bool x.2.2.2.1, Sl.toV x.2.2.2.2.1, Sl.toV x.2.2.2.2.2.1, Value.bool x.2.2.2.2.2.2.1, Sl.toV x.2.2.2.2.2.2.2.1, Sl.toV x.2.2.2.2.2.2.2.2.1, Value.bool x.2.2.2.2.2.2.2.2.2.1, Sl.toV x.2.2.2.2.2.2.2.2.2.2.1, Sl.toV x.2.2.2.2.2.2.2.2.2.2.2]
def ref02uDecimal (s0 : ByteArray) (h : Heap) (Q : ((Bool × Sl × Sl) × Bool) → Heap → Prop) : Prop :=
  mem h fun h0 =>
  new [] h0 fun a h0u1 =>
  Let ((⟨some a, 0, 0⟩ : Sl) : Sl) fun digits =>
  Let (IntKind.wrap .i64 (((s0.size : Nat) : Int) - 1) : Int) fun i =>
  loop (fun (s0u1 : Int × Sl × Int × Bool × Sl × Sl) h0u2 (K0 : (Int × Sl × Int × Bool × Sl × Sl) → Heap → Prop) =>
   iteB (decide (s0u1.2.2.1 ≥ 0)) (
    seq (fun (K0u1 : (Int × Sl × Bool × Sl × Sl) → Heap → Prop) =>
     seq (fun (K0u2 : Bool → Heap → Prop) =>
      idxStr s0 s0u1.2.2.1 fun v_1 =>
      iteB (v_1 == 46) (
       iteB (decide (s0u1.1 < 0)) (
        iteB (decide (s0u1.2.2.1 > 0)) (
         K0u2 (decide (s0u1.2.2.1 < (IntKind.wrap .i64 (((s0.size : Nat) : Int) - 1)))) h0u2
        ) (
         K0u2 false h0u2
        )
       ) (
        K0u2 false h0u2
       )
      ) (
       K0u2 false h0u2
      )
     ) (fun t0u1 h0u4 =>
      iteB t0u1 (
       K0u1 (s0u1.2.2.1, s0u1.2.1, s0u1.2.2.2.1, s0u1.2.2.2.2.1, s0u1.2.2.2.2.2) h0u4
      ) (
       seq (fun (K0u3 : Bool → Heap → Prop) =>
        idxStr s0 s0u1.2.2.1 fun v_2 =>
        iteB (decide (v_2 ≥ 48)) (
         idxStr s0 s0u1.2.2.1 fun v_3 =>
         K0u3 (decide (v_3 ≤ 57)) h0u4
        ) (
         K0u3 false h0u4
        )
       ) (fun t0u2 h0u5 =>
        iteB t0u2 (
         idxStr s0 s0u1.2.2.1 fun v_4 =>
         new [Value.int .i64 (IntKind.wrap .i64 ((IntKind.wrap .i64 v_4) - 48))] h0u5 fun a_1 h0u6 =>
         appendS 1 8 s0u1.2.1 (⟨some a_1, 1, 1⟩ : Sl) h0u6 fun v_6 h0u7 =>
         K0u1 (s0u1.1, v_6, s0u1.2.2.2.1, s0u1.2.2.2.2.1, s0u1.2.2.2.2.2) h0u7
        ) (
         ref02uInt 0 h0u5 fun v_7 h0u8 =>
         Q ((v_7.1, v_7.2.1, v_7.2.2), false) h0u8
        )
       )
      )
     )
    ) (fun t0 h0u3 =>
     Let (IntKind.wrap .i64 (s0u1.2.2.1 - 1) : Int) fun i_1 =>
     K0 (t0.1, t0.2.1, i_1, t0.2.2.1, t0.2.2.2.1, t0.2.2.2.2) h0u3
    )
   ) (
    new [Value.int .i64 1] h0u2 fun a_2 h0u9 =>
    Let ((⟨some a_2, 1, 1⟩ : Sl) : Sl) fun d =>
    Let (IntKind.wrap .i64 (s0u1.1 + 1) : Int) fun i_2 =>
    loop (fun (s0u2 : Sl × Int) h0u10 (K0u4 : (Sl × Int) → Heap → Prop) =>
     seq (fun (K0u5 : Bool → Heap → Prop) =>
      iteB (decide (s0u1.1 ≥ 0)) (
       K0u5 (decide (s0u2.2 < ((s0.size : Nat) : Int))) h0u10
      ) (
       K0u5 false h0u10
      )
     ) (fun t0u3 h0u11 =>
      iteB t0u3 (
       new [Value.int .i64 0] h0u11 fun a_3 h0u12 =>
       appendS 1 8 (⟨some a_3, 1, 1⟩ : Sl) s0u2.1 h0u12 fun v_10 h0u13 =>
       Let (IntKind.wrap .i64 (s0u2.2 + 1) : Int) fun i_3 =>
       K0u4 (v_10, i_3) h0u13
      ) (
       ref01uCut s0u1.2.1 h0u11 fun v_11 h0u14 =>
       ref02uLow (false, v_11, s0u2.1) h0u14 fun v_12 h0u15 =>
       Q ((v_12.1, v_12.2.1, v_12.2.2), decide (((s0.size : Nat) : Int) > 0)) h0u15
      )
     )
    ) (d, i_2) h0u9
   )
  ) ((-1), digits, i, false, Sl.nil, Sl.nil) h0u1
def law02uRatioReads (limbs : Int) (s0 : ByteArray) (h : Heap) (Q : Bool → Heap → Prop) : Prop :=
  law02uspeaks h fun v h0 =>
  iteB (!v) (
   Q false h0
  ) (
   iteB (decide (((s0.size : Nat) : Int) > 60)) (
    Q true h0
   ) (
    nat_New limbs h0 fun v_1 h0u1 =>
    ratio_Decimal v_1 s0 h0u1 fun v_2 h0u2 =>
    mem h0u2 fun h0u3 =>
    ref02uDecimal s0 h0u3 fun v_3 h0u4 =>
    mem h0u4 fun h0u5 =>
    ref02uForm (v_3.1.1, v_3.1.2.1, v_3.1.2.2) h0u5 fun v_4 h0u6 =>
    mem h0u6 fun h0u7 =>
    iteB (!v_3.2) (
     seq (fun (K0 : Bool → Heap → Prop) =>
      iteB (!v_2.2) (
       ref02uSame (v_2.1.1, v_2.1.2.1, v_2.1.2.2) (false, Sl.nil, Sl.nil) h0u7 fun v_5 h0u9 =>
       iteB v_5 (
        nat_Bench_Over v_1 h0u9 fun v_6 h0u10 =>
        K0 (!v_6) h0u10
       ) (
        K0 false h0u9
       )
      ) (
       K0 false h0u7
      )
     ) (fun t0 h0u8 =>
      Q t0 h0u8
     )
    ) (
     ref02uFits (v_4.1, v_4.2.1, v_4.2.2) (if 1 > limbs then 1 else limbs) h0u7 fun v_7 h0u11 =>
     iteB (!v_7) (
      seq (fun (K0u1 : Bool → Heap → Prop) =>
       iteB (!v_2.2) (
        ref02uSame (v_2.1.1, v_2.1.2.1, v_2.1.2.2) (false, Sl.nil, Sl.nil) h0u11 fun v_8 h0u13 =>
        iteB v_8 (
         nat_Bench_Over v_1 h0u13 fun v_9 h0u14 =>
         K0u1 v_9 h0u14
        ) (
         K0u1 false h0u13
        )
       ) (
        K0u1 false h0u11
       )
      ) (fun t0u1 h0u12 =>
       Q t0u1 h0u12
      )
     ) (
      seq (fun (K0u2 : Bool → Heap → Prop) =>
       iteB v_2.2 (
        ref02uSame (v_2.1.1, v_2.1.2.1, v_2.1.2.2) (v_4.1, v_4.2.1, v_4.2.2) h0u11 fun v_10 h0u16 =>
        iteB v_10 (
         nat_Bench_Over v_1 h0u16 fun v_11 h0u17 =>
         K0u2 (!v_11) h0u17
        ) (
         K0u2 false h0u16
        )
       ) (
        K0u2 false h0u11
       )
      ) (fun t0u2 h0u15 =>
       Q t0u2 h0u15
      )
     )
    )
   )
  )
def ratio_Of (n : Int) (h : Heap) (Q : (Bool × Sl × Sl) → Heap → Prop) : Prop :=
  mem h fun h0 =>
  Let (IntKind.wrap .u64 n : Int) fun size =>
  seq (fun (K0 : Int → Heap → Prop) =>
   iteB (decide (n < 0)) (
    Let (IntKind.wrap .u64 (0 - size) : Int) fun size_1 =>
    K0 size_1 h0
   ) (
    K0 size h0
   )
  ) (fun t0 h0u1 =>
   nat_Of t0 h0u1 fun v h0u2 =>
   Q (decide (n < 0), v, Sl.nil) h0u2
  )
def ratio_Make (b : (Option Addr)) (neg : Bool) (num : Sl) (d : Sl) (h : Heap) (Q : (Bool × Sl × Sl) → Heap → Prop) : Prop :=
  mem h fun h0 =>
  nat_Cmp d Sl.nil h0 fun v h0u1 =>
  iteB (v == 0) (
   Q (false, Sl.nil, Sl.nil) h0u1
  ) (
   ratio_form neg num d h0u1 fun v_1 h0u2 =>
   ratio_fit b (v_1.1, v_1.2.1, v_1.2.2) h0u2 fun v_2 h0u3 =>
   Q (v_2.1, v_2.2.1, v_2.2.2) h0u3
  )
def law02uRatioMakes_c1 (b : (Option Addr)) (c0 : Addr) (c1 : Addr) (c2 : Addr) (h : Heap) (Q : (Bool × Sl × Sl) → Heap → Prop) : Prop :=
  mem h fun h0 =>
  Lift.load Value.bool c0 h0 fun v =>
  Lift.load Sl.toV c1 h0 fun v_1 =>
  Lift.load Sl.toV c2 h0 fun v_2 =>
  ratio_Make b v v_1 v_2 h0 fun v_3 h0u1 =>
  Q (v_3.1, v_3.2.1, v_3.2.2) h0u1
def law02utold__law02uRatioMakes_c1 (limbs : Int) (do_c : Addr) (do_c_1 : Addr) (do_c_2 : Addr) (want : Bool × Sl × Sl) (h : Heap) (Q : Bool → Heap → Prop) : Prop :=
  mem h fun h0 =>
  nat_New limbs h0 fun v h0u1 =>
  seq (fun (K0 : (Bool × Sl × Sl × Bool × Sl × Sl) → Heap → Prop) =>
   mem h0u1 fun h0u3 =>
   law02uRatioMakes_c1 v do_c do_c_1 do_c_2 h0u3 fun v_10 h0u22 =>
   mem h0u22 fun h0u23 =>
   ref02uForm (want.1, want.2.1, want.2.2) h0u23 fun v_11 h0u24 =>
   mem h0u24 fun h0u25 =>
   K0 (v_10.1, v_10.2.1, v_10.2.2, v_11.1, v_11.2.1, v_11.2.2) h0u25
  ) (fun t0 h0u2 =>
   ref02uFits (t0.2.2.2.1, t0.2.2.2.2.1, t0.2.2.2.2.2) (if 1 > limbs then 1 else limbs) h0u2 fun v_17 h0u36 =>
   iteB (!v_17) (
    seq (fun (K0u1 : Bool → Heap → Prop) =>
     nat_Bench_Over v h0u36 fun v_18 h0u38 =>
     iteB v_18 (
      ref02uSame (t0.1, t0.2.1, t0.2.2.1) (false, Sl.nil, Sl.nil) h0u38 fun v_19 h0u39 =>
      K0u1 v_19 h0u39
     ) (
      K0u1 false h0u38
     )
    ) (fun t0u1 h0u37 =>
     Q t0u1 h0u37
    )
   ) (
    seq (fun (K0u2 : Bool → Heap → Prop) =>
     nat_Bench_Over v h0u36 fun v_20 h0u41 =>
     iteB (!v_20) (
      ref02uSame (t0.1, t0.2.1, t0.2.2.1) (t0.2.2.2.1, t0.2.2.2.2.1, t0.2.2.2.2.2) h0u41 fun v_21 h0u42 =>
      K0u2 v_21 h0u42
     ) (
      K0u2 false h0u41
     )
    ) (fun t0u2 h0u40 =>
     Q t0u2 h0u40
    )
   )
  )
def law02uRatioMakes (limbs : Int) (neg : Bool) (num : Sl) (den : Sl) (n : Int) (x0 : Bool × Sl × Sl) (h : Heap) (Q : Bool → Heap → Prop) : Prop :=
  new [Value.bool neg] h fun neg_1 h0 =>
  new [Sl.toV num] h0 fun num_1 h0u1 =>
  new [Sl.toV den] h0u1 fun den_1 h0u2 =>
  mem h0u2 fun h0u3 =>
  law02uspeaks h0u3 fun v h0u4 =>
  iteB (!v) (
   Q false h0u4
  ) (
   seq (fun (K0 : Bool → Heap → Prop) =>
    Lift.load Sl.toV num_1 h0u4 fun v_1 =>
    iteB (decide (((v_1.len : Nat) : Int) > 8)) (
     K0 true h0u4
    ) (
     Lift.load Sl.toV den_1 h0u4 fun v_2 =>
     iteB (decide (((v_2.len : Nat) : Int) > 8)) (
      K0 true h0u4
     ) (
      new [Value.bool x0.1, Sl.toV x0.2.1, Sl.toV x0.2.2] h0u4 fun a h0u6 =>
      law02uGreat (⟨some a, 1, 1⟩ : Sl) h0u6 fun v_4 h0u7 =>
      K0 v_4 h0u7
     )
    )
   ) (fun t0 h0u5 =>
    iteB t0 (
     Q true h0u5
    ) (
     ratio_Right (x0.1, x0.2.1, x0.2.2) h0u5 fun v_5 h0u8 =>
     ref02uRight (x0.1, x0.2.1, x0.2.2) h0u8 fun v_6 h0u9 =>
     iteB (!(v_5 == v_6)) (
      Q false h0u9
     ) (
      ratio_Of n h0u9 fun v_7 h0u10 =>
      mem h0u10 fun h0u11 =>
      seq (fun (K0u1 : Bool → Heap → Prop) =>
       iteB (decide (n > (-4611686018427387904))) (
        ref02uInt n h0u11 fun v_8 h0u13 =>
        ref02uForm (v_8.1, v_8.2.1, v_8.2.2) h0u13 fun v_9 h0u14 =>
        ref02uSame (v_7.1, v_7.2.1, v_7.2.2) (v_9.1, v_9.2.1, v_9.2.2) h0u14 fun v_10 h0u15 =>
        iteB (!v_10) (
         K0u1 true h0u15
        ) (
         ref02uRight (v_7.1, v_7.2.1, v_7.2.2) h0u15 fun v_11 h0u16 =>
         K0u1 (!v_11) h0u16
        )
       ) (
        ref02uRight (v_7.1, v_7.2.1, v_7.2.2) h0u11 fun v_12 h0u17 =>
        K0u1 (!v_12) h0u17
       )
      ) (fun t0u1 h0u12 =>
       iteB t0u1 (
        Q false h0u12
       ) (
        Lift.load Sl.toV den_1 h0u12 fun v_13 =>
        ref01uOf v_13 h0u12 fun v_14 h0u18 =>
        iteB (((v_14.len : Nat) : Int) == 0) (
         nat_New limbs h0u18 fun v_15 h0u19 =>
         seq (fun (K0u2 : Bool → Heap → Prop) =>
          Lift.load Value.bool neg_1 h0u19 fun v_16 =>
          Lift.load Sl.toV num_1 h0u19 fun v_17 =>
          Lift.load Sl.toV den_1 h0u19 fun v_18 =>
          ratio_Make v_15 v_16 v_17 v_18 h0u19 fun v_19 h0u21 =>
          ref02uSame (v_19.1, v_19.2.1, v_19.2.2) (false, Sl.nil, Sl.nil) h0u21 fun v_20 h0u22 =>
          iteB v_20 (
           nat_Bench_Over v_15 h0u22 fun v_21 h0u23 =>
           K0u2 (!v_21) h0u23
          ) (
           K0u2 false h0u22
          )
         ) (fun t0u2 h0u20 =>
          Q t0u2 h0u20
         )
        ) (
         Lift.load Value.bool neg_1 h0u18 fun v_22 =>
         Lift.load Sl.toV num_1 h0u18 fun v_23 =>
         ref01uOf v_23 h0u18 fun v_24 h0u24 =>
         (cell? h0u24 neg_1 = some (Value.bool v_22)) ∧
         ref02uLow (v_22, v_24, v_14) h0u24 fun v_25 h0u25 =>
         law02utold__law02uRatioMakes_c1 limbs neg_1 num_1 den_1 (v_25.1, v_25.2.1, v_25.2.2) h0u25 fun v_26 h0u26 =>
         Q v_26 h0u26
        )
       )
      )
     )
    )
   )
  )
def law02uRatioOver (x0 : Bool × Sl × Sl) (y : Bool × Sl × Sl) (s0 : ByteArray) (h : Heap) (Q : Bool → Heap → Prop) : Prop :=
  mem h fun h0 =>
  law02uspeaks h0 fun v h0u1 =>
  iteB (!v) (
   Q false h0u1
  ) (
   seq (fun (K0 : Bool → Heap → Prop) =>
    new [Value.bool x0.1, Sl.toV x0.2.1, Sl.toV x0.2.2, Value.bool y.1, Sl.toV y.2.1, Sl.toV y.2.2] h0u1 fun a h0u3 =>
    law02uGreat (⟨some a, 2, 2⟩ : Sl) h0u3 fun v_2 h0u4 =>
    iteB v_2 (
     K0 true h0u4
    ) (
     ref02uRight (x0.1, x0.2.1, x0.2.2) h0u4 fun v_3 h0u5 =>
     iteB (!v_3) (
      K0 true h0u5
     ) (
      ref02uRight (y.1, y.2.1, y.2.2) h0u5 fun v_4 h0u6 =>
      iteB (!v_4) (
       K0 true h0u6
      ) (
       K0 (decide (((s0.size : Nat) : Int) > 60)) h0u6
      )
     )
    )
   ) (fun t0 h0u2 =>
    iteB t0 (
     Q true h0u2
    ) (
     nat_New 1 h0u2 fun v_5 h0u7 =>
     new [Value.int .u32 0, Value.int .u32 1] h0u7 fun a_1 h0u8 =>
     new [Value.int .u32 5] h0u8 fun a_2 h0u9 =>
     nat_Bench_Mul v_5 (⟨some a_1, 2, 2⟩ : Sl) (⟨some a_2, 1, 1⟩ : Sl) h0u9 fun v_8 h0u10 =>
     ratio_Decimal v_5 s0 h0u10 fun v_9 h0u11 =>
     mem h0u11 fun h0u12 =>
     ratio_Add v_5 (x0.1, x0.2.1, x0.2.2) (y.1, y.2.1, y.2.2) h0u12 fun v_10 h0u13 =>
     ratio_Sub v_5 (x0.1, x0.2.1, x0.2.2) (y.1, y.2.1, y.2.2) h0u13 fun v_11 h0u14 =>
     ratio_Mul v_5 (x0.1, x0.2.1, x0.2.2) (y.1, y.2.1, y.2.2) h0u14 fun v_12 h0u15 =>
     ratio_Div v_5 (x0.1, x0.2.1, x0.2.2) (y.1, y.2.1, y.2.2) h0u15 fun v_13 h0u16 =>
     new [Value.bool v_10.1, Sl.toV v_10.2.1, Sl.toV v_10.2.2, Value.bool v_11.1, Sl.toV v_11.2.1, Sl.toV v_11.2.2, Value.bool v_12.1, Sl.toV v_12.2.1, Sl.toV v_12.2.2, Value.bool v_13.1, Sl.toV v_13.2.1, Sl.toV v_13.2.2, Value.bool v_9.1.1, Sl.toV v_9.1.2.1, Sl.toV v_9.1.2.2] h0u16 fun a_3 h0u17 =>
     loop (fun (s0u1 : Int) h0u18 (K0u1 : Int → Heap → Prop) =>
      iteB (decide (s0u1 < (((⟨some a_3, 5, 5⟩ : Sl).len : Nat) : Int))) (
       idxS (⟨some a_3, 5, 5⟩ : Sl) s0u1 3 fun a_4 =>
       loadS C_bool_sl_sl 3 a_4 h0u18 fun v_15 =>
       mem h0u18 fun h0u19 =>
       ref02uSame (v_15.1, v_15.2.1, v_15.2.2) (false, Sl.nil, Sl.nil) h0u19 fun v_16 h0u20 =>
       iteB (!v_16) (
        Q false h0u20
       ) (
        K0u1 (IntKind.wrap .i64 (s0u1 + 1)) h0u20
       )
      ) (
       seq (fun (K0u2 : Bool → Heap → Prop) =>
        iteB (!v_9.2) (
         nat_Bench_Over v_5 h0u18 fun v_17 h0u22 =>
         K0u2 v_17 h0u22
        ) (
         K0u2 false h0u18
        )
       ) (fun t0u1 h0u21 =>
        Q t0u1 h0u21
       )
      )
     ) 0 h0u17
    )
   )
  )
def law02uRatioRules_c1 (x0 : Bool × Sl × Sl) (y : Bool × Sl × Sl) (c0 : Addr) (h : Heap) (Q : (Bool × Sl × Sl) → Heap → Prop) : Prop :=
  mem h fun h0 =>
  Lift.load Value.pointer c0 h0 fun v =>
  ratio_Add v (x0.1, x0.2.1, x0.2.2) (y.1, y.2.1, y.2.2) h0 fun v_1 h0u1 =>
  Q (v_1.1, v_1.2.1, v_1.2.2) h0u1
def law02uRatioRules_c2 (x0 : Bool × Sl × Sl) (y : Bool × Sl × Sl) (c0 : Addr) (h : Heap) (Q : (Bool × Sl × Sl) → Heap → Prop) : Prop :=
  mem h fun h0 =>
  Lift.load Value.pointer c0 h0 fun v =>
  ratio_Mul v (x0.1, x0.2.1, x0.2.2) (y.1, y.2.1, y.2.2) h0 fun v_1 h0u1 =>
  Q (v_1.1, v_1.2.1, v_1.2.2) h0u1
def law02uRatioRules (x0 : Bool × Sl × Sl) (y : Bool × Sl × Sl) (z : Bool × Sl × Sl) (h : Heap) (Q : Bool → Heap → Prop) : Prop :=
  mem h fun h0 =>
  law02uspeaks h0 fun v h0u1 =>
  iteB (!v) (
   Q false h0u1
  ) (
   seq (fun (K0 : Bool → Heap → Prop) =>
    new [Value.bool x0.1, Sl.toV x0.2.1, Sl.toV x0.2.2, Value.bool y.1, Sl.toV y.2.1, Sl.toV y.2.2, Value.bool z.1, Sl.toV z.2.1, Sl.toV z.2.2] h0u1 fun a h0u3 =>
    law02uGreat (⟨some a, 3, 3⟩ : Sl) h0u3 fun v_2 h0u4 =>
    iteB v_2 (
     K0 true h0u4
    ) (
     ref02uRight (x0.1, x0.2.1, x0.2.2) h0u4 fun v_3 h0u5 =>
     iteB (!v_3) (
      K0 true h0u5
     ) (
      ref02uRight (y.1, y.2.1, y.2.2) h0u5 fun v_4 h0u6 =>
      iteB (!v_4) (
       K0 true h0u6
      ) (
       ref02uRight (z.1, z.2.1, z.2.2) h0u6 fun v_5 h0u7 =>
       K0 (!v_5) h0u7
      )
     )
    )
   ) (fun t0 h0u2 =>
    iteB t0 (
     Q true h0u2
    ) (
     nat_New 200 h0u2 fun v_6 h0u8 =>
     new [Value.pointer none] h0u8 fun b_3 h0u9 =>
     Lift.store b_3 (Value.pointer v_6) h0u9 fun h0u10 =>
     seq (fun (K0u1 : Bool → Heap → Prop) =>
      law02uRatioRules_c1 (x0.1, x0.2.1, x0.2.2) (y.1, y.2.1, y.2.2) b_3 h0u10 fun v_7 h0u12 =>
      law02uRatioRules_c1 (y.1, y.2.1, y.2.2) (x0.1, x0.2.1, x0.2.2) b_3 h0u12 fun v_8 h0u13 =>
      ref02uSame (v_7.1, v_7.2.1, v_7.2.2) (v_8.1, v_8.2.1, v_8.2.2) h0u13 fun v_9 h0u14 =>
      iteB (!v_9) (
       K0u1 true h0u14
      ) (
       law02uRatioRules_c2 (x0.1, x0.2.1, x0.2.2) (y.1, y.2.1, y.2.2) b_3 h0u14 fun v_10 h0u15 =>
       law02uRatioRules_c2 (y.1, y.2.1, y.2.2) (x0.1, x0.2.1, x0.2.2) b_3 h0u15 fun v_11 h0u16 =>
       ref02uSame (v_10.1, v_10.2.1, v_10.2.2) (v_11.1, v_11.2.1, v_11.2.2) h0u16 fun v_12 h0u17 =>
       iteB (!v_12) (
        K0u1 true h0u17
       ) (
        law02uRatioRules_c1 (y.1, y.2.1, y.2.2) (z.1, z.2.1, z.2.2) b_3 h0u17 fun v_13 h0u18 =>
        law02uRatioRules_c2 (x0.1, x0.2.1, x0.2.2) (v_13.1, v_13.2.1, v_13.2.2) b_3 h0u18 fun v_14 h0u19 =>
        law02uRatioRules_c2 (x0.1, x0.2.1, x0.2.2) (y.1, y.2.1, y.2.2) b_3 h0u19 fun v_15 h0u20 =>
        law02uRatioRules_c2 (x0.1, x0.2.1, x0.2.2) (z.1, z.2.1, z.2.2) b_3 h0u20 fun v_16 h0u21 =>
        law02uRatioRules_c1 (v_15.1, v_15.2.1, v_15.2.2) (v_16.1, v_16.2.1, v_16.2.2) b_3 h0u21 fun v_17 h0u22 =>
        ref02uSame (v_14.1, v_14.2.1, v_14.2.2) (v_17.1, v_17.2.1, v_17.2.2) h0u22 fun v_18 h0u23 =>
        iteB (!v_18) (
         K0u1 true h0u23
        ) (
         Lift.load Value.pointer b_3 h0u23 fun v_19 =>
         law02uRatioRules_c1 (x0.1, x0.2.1, x0.2.2) (y.1, y.2.1, y.2.2) b_3 h0u23 fun v_20 h0u24 =>
         (cell? h0u24 b_3 = some (Value.pointer v_19)) ∧
         ratio_Sub v_19 (v_20.1, v_20.2.1, v_20.2.2) (y.1, y.2.1, y.2.2) h0u24 fun v_21 h0u25 =>
         ref02uSame (v_21.1, v_21.2.1, v_21.2.2) (x0.1, x0.2.1, x0.2.2) h0u25 fun v_22 h0u26 =>
         K0u1 (!v_22) h0u26
        )
       )
      )
     ) (fun t0u1 h0u11 =>
      iteB t0u1 (
       Q false h0u11
      ) (
       seq (fun (K0u2 : Bool → Heap → Prop) =>
        ratio_Sign (y.1, y.2.1, y.2.2) h0u11 fun v_23 h0u28 =>
        iteB (v_23 != 0) (
         Lift.load Value.pointer b_3 h0u28 fun v_24 =>
         law02uRatioRules_c2 (x0.1, x0.2.1, x0.2.2) (y.1, y.2.1, y.2.2) b_3 h0u28 fun v_25 h0u29 =>
         (cell? h0u29 b_3 = some (Value.pointer v_24)) ∧
         ratio_Div v_24 (v_25.1, v_25.2.1, v_25.2.2) (y.1, y.2.1, y.2.2) h0u29 fun v_26 h0u30 =>
         ref02uSame (v_26.1, v_26.2.1, v_26.2.2) (x0.1, x0.2.1, x0.2.2) h0u30 fun v_27 h0u31 =>
         K0u2 (!v_27) h0u31
        ) (
         K0u2 false h0u28
        )
       ) (fun t0u2 h0u27 =>
        iteB t0u2 (
         Q false h0u27
        ) (
         seq (fun (K0u3 : Bool → Heap → Prop) =>
          ratio_Cmp (x0.1, x0.2.1, x0.2.2) (y.1, y.2.1, y.2.2) h0u27 fun v_28 h0u33 =>
          law02uRatioRules_c1 (x0.1, x0.2.1, x0.2.2) (z.1, z.2.1, z.2.2) b_3 h0u33 fun v_29 h0u34 =>
          law02uRatioRules_c1 (y.1, y.2.1, y.2.2) (z.1, z.2.1, z.2.2) b_3 h0u34 fun v_30 h0u35 =>
          ratio_Cmp (v_29.1, v_29.2.1, v_29.2.2) (v_30.1, v_30.2.1, v_30.2.2) h0u35 fun v_31 h0u36 =>
          iteB (v_28 == v_31) (
           ratio_Cmp (x0.1, x0.2.1, x0.2.2) (y.1, y.2.1, y.2.2) h0u36 fun v_32 h0u37 =>
           ratio_Cmp (y.1, y.2.1, y.2.2) (x0.1, x0.2.1, x0.2.2) h0u37 fun v_33 h0u38 =>
           iteB (v_32 == (IntKind.wrap .i64 (0 - v_33))) (
            Lift.load Value.pointer b_3 h0u38 fun v_34 =>
            ratio_Cmp (x0.1, x0.2.1, x0.2.2) (y.1, y.2.1, y.2.2) h0u38 fun v_35 h0u39 =>
            (cell? h0u39 b_3 = some (Value.pointer v_34)) ∧
            ratio_Sub v_34 (x0.1, x0.2.1, x0.2.2) (y.1, y.2.1, y.2.2) h0u39 fun v_36 h0u40 =>
            ratio_Sign (v_36.1, v_36.2.1, v_36.2.2) h0u40 fun v_37 h0u41 =>
            iteB (v_35 == v_37) (
             Lift.load Value.pointer b_3 h0u41 fun v_38 =>
             nat_Bench_Over v_38 h0u41 fun v_39 h0u42 =>
             K0u3 (!v_39) h0u42
            ) (
             K0u3 false h0u41
            )
           ) (
            K0u3 false h0u38
           )
          ) (
           K0u3 false h0u36
          )
         ) (fun t0u3 h0u32 =>
          Q t0u3 h0u32
         )
        )
       )
      )
     )
    )
   )
  )
def delta_Of (x0 : Bool × Sl × Sl) (h : Heap) (Q : (Bool × Sl × Sl × Bool × Sl × Sl) → Heap → Prop) : Prop :=
  mem h fun h0 =>
  Q (x0.1, x0.2.1, x0.2.2, false, Sl.nil, Sl.nil) h0
def delta_Cmp (x0 : Bool × Sl × Sl × Bool × Sl × Sl) (y : Bool × Sl × Sl × Bool × Sl × Sl) (h : Heap) (Q : Int → Heap → Prop) : Prop :=
  mem h fun h0 =>
  ratio_Cmp (x0.1, x0.2.1, x0.2.2.1) (y.1, y.2.1, y.2.2.1) h0 fun v h0u1 =>
  iteB (v != 0) (
   Q v h0u1
  ) (
   ratio_Cmp (x0.2.2.2.1, x0.2.2.2.2.1, x0.2.2.2.2.2) (y.2.2.2.1, y.2.2.2.2.1, y.2.2.2.2.2) h0u1 fun v_1 h0u2 =>
   Q v_1 h0u2
  )
def delta_Text (x0 : Bool × Sl × Sl × Bool × Sl × Sl) (h : Heap) (Q : ByteArray → Heap → Prop) : Prop :=
  mem h fun h0 =>
  ratio_Sign (x0.2.2.2.1, x0.2.2.2.2.1, x0.2.2.2.2.2) h0 fun v h0u1 =>
  iteB (v == 1) (
   ratio_Text (x0.1, x0.2.1, x0.2.2.1) h0u1 fun v_1 h0u2 =>
   ((v_1.size + (ByteArray.mk #[43]).size : Nat) : Int) ≤ 9223372036854775807 ∧
   ratio_Text (x0.2.2.2.1, x0.2.2.2.2.1, x0.2.2.2.2.2) h0u2 fun v_2 h0u3 =>
   (((v_1 ++ (ByteArray.mk #[43])).size + v_2.size : Nat) : Int) ≤ 9223372036854775807 ∧
   ((((v_1 ++ (ByteArray.mk #[43])) ++ v_2).size + (ByteArray.mk #[100]).size : Nat) : Int) ≤ 9223372036854775807 ∧
   Q (((v_1 ++ (ByteArray.mk #[43])) ++ v_2) ++ (ByteArray.mk #[100])) h0u3
  ) (
   iteB (v == (-1)) (
    ratio_Text (x0.1, x0.2.1, x0.2.2.1) h0u1 fun v_3 h0u4 =>
    ((v_3.size + (ByteArray.mk #[45]).size : Nat) : Int) ≤ 9223372036854775807 ∧
    ratio_Neg (x0.2.2.2.1, x0.2.2.2.2.1, x0.2.2.2.2.2) h0u4 fun v_4 h0u5 =>
    ratio_Text (v_4.1, v_4.2.1, v_4.2.2) h0u5 fun v_5 h0u6 =>
    (((v_3 ++ (ByteArray.mk #[45])).size + v_5.size : Nat) : Int) ≤ 9223372036854775807 ∧
    ((((v_3 ++ (ByteArray.mk #[45])) ++ v_5).size + (ByteArray.mk #[100]).size : Nat) : Int) ≤ 9223372036854775807 ∧
    Q (((v_3 ++ (ByteArray.mk #[45])) ++ v_5) ++ (ByteArray.mk #[100])) h0u6
   ) (
    ratio_Text (x0.1, x0.2.1, x0.2.2.1) h0u1 fun v_6 h0u7 =>
    Q v_6 h0u7
   )
  )
def law03uspeaks (h : Heap) (Q : Bool → Heap → Prop) : Prop :=
  ratio_Of 1 h fun v h0 =>
  ratio_Of (-1) h0 fun v_1 h0u1 =>
  mem h0u1 fun h0u2 =>
  seq (fun (K0 : Bool → Heap → Prop) =>
   ratio_Of 1 h0u2 fun v_2 h0u4 =>
   delta_Of (v_2.1, v_2.2.1, v_2.2.2) h0u4 fun v_3 h0u5 =>
   delta_Cmp (v.1, v.2.1, v.2.2, v_1.1, v_1.2.1, v_1.2.2) (v_3.1, v_3.2.1, v_3.2.2.1, v_3.2.2.2.1, v_3.2.2.2.2.1, v_3.2.2.2.2.2) h0u5 fun v_4 h0u6 =>
   iteB (decide (v_4 < 0)) (
    delta_Text (v.1, v.2.1, v.2.2, v_1.1, v_1.2.1, v_1.2.2) h0u6 fun v_5 h0u7 =>
    K0 (v_5.toList == (ByteArray.mk #[49, 45, 49, 100]).toList) h0u7
   ) (
    K0 false h0u6
   )
  ) (fun t0 h0u3 =>
   Q t0 h0u3
  )
def ref03uRight (x0 : Bool × Sl × Sl × Bool × Sl × Sl) (h : Heap) (Q : Bool → Heap → Prop) : Prop :=
  mem h fun h0 =>
  seq (fun (K0 : Bool → Heap → Prop) =>
   ref02uRight (x0.1, x0.2.1, x0.2.2.1) h0 fun v h0u2 =>
   iteB v (
    ref02uRight (x0.2.2.2.1, x0.2.2.2.2.1, x0.2.2.2.2.2) h0u2 fun v_1 h0u3 =>
    K0 v_1 h0u3
   ) (
    K0 false h0u2
   )
  ) (fun t0 h0u1 =>
   Q t0 h0u1
  )
def law03uOdd (l : Sl) (h : Heap) (Q : Bool → Heap → Prop) : Prop :=
  loop (fun (s0 : Int) h0 (K0 : Int → Heap → Prop) =>
   iteB (decide (s0 < ((l.len : Nat) : Int))) (
    idxS l s0 6 fun a =>
    loadS C_bool_sl_sl_bool_sl_sl 6 a h0 fun v =>
    mem h0 fun h0u1 =>
    seq (fun (K0u1 : Bool → Heap → Prop) =>
     new [Value.bool v.1, Sl.toV v.2.1, Sl.toV v.2.2.1, Value.bool v.2.2.2.1, Sl.toV v.2.2.2.2.1, Sl.toV v.2.2.2.2.2] h0u1 fun a_1 h0u3 =>
     law02uGreat (⟨some a_1, 2, 2⟩ : Sl) h0u3 fun v_2 h0u4 =>
     iteB v_2 (
      K0u1 true h0u4
     ) (
      ref03uRight (v.1, v.2.1, v.2.2.1, v.2.2.2.1, v.2.2.2.2.1, v.2.2.2.2.2) h0u4 fun v_3 h0u5 =>
      K0u1 (!v_3) h0u5
     )
    ) (fun t0 h0u2 =>
     iteB t0 (
      Q true h0u2
     ) (
      K0 (IntKind.wrap .i64 (s0 + 1)) h0u2
     )
    )
   ) (
    Q false h0
   )
  ) 0 h
def ref03uOf (x0 : Bool × Sl × Sl × Bool × Sl × Sl) (h : Heap) (Q : (Bool × Sl × Sl × Bool × Sl × Sl) → Heap → Prop) : Prop :=
  mem h fun h0 =>
  ref02uOf (x0.1, x0.2.1, x0.2.2.1) h0 fun v h0u1 =>
  ref02uOf (x0.2.2.2.1, x0.2.2.2.2.1, x0.2.2.2.2.2) h0u1 fun v_1 h0u2 =>
  Q (v.1, v.2.1, v.2.2, v_1.1, v_1.2.1, v_1.2.2) h0u2
def delta_both__ratio_Add (b : (Option Addr)) (x0 : Bool × Sl × Sl × Bool × Sl × Sl) (y : Bool × Sl × Sl × Bool × Sl × Sl) (h : Heap) (Q : (Bool × Sl × Sl × Bool × Sl × Sl) → Heap → Prop) : Prop :=
  mem h fun h0 =>
  seq (fun (K0 : (Bool × Sl × Sl × Bool × Sl × Sl) → Heap → Prop) =>
   mem h0 fun h0u2 =>
   ratio_Add b (x0.1, x0.2.1, x0.2.2.1) (y.1, y.2.1, y.2.2.1) h0u2 fun v_3 h0u9 =>
   mem h0u9 fun h0u10 =>
   ratio_Add b (x0.2.2.2.1, x0.2.2.2.2.1, x0.2.2.2.2.2) (y.2.2.2.1, y.2.2.2.2.1, y.2.2.2.2.2) h0u10 fun v_4 h0u11 =>
   mem h0u11 fun h0u12 =>
   K0 (v_3.1, v_3.2.1, v_3.2.2, v_4.1, v_4.2.1, v_4.2.2) h0u12
  ) (fun t0 h0u1 =>
   nat_Bench_Over b h0u1 fun v_5 h0u13 =>
   iteB v_5 (
    Q (false, Sl.nil, Sl.nil, false, Sl.nil, Sl.nil) h0u13
   ) (
    Q (t0.1, t0.2.1, t0.2.2.1, t0.2.2.2.1, t0.2.2.2.2.1, t0.2.2.2.2.2) h0u13
   )
  )
def delta_Add (b : (Option Addr)) (x0 : Bool × Sl × Sl × Bool × Sl × Sl) (y : Bool × Sl × Sl × Bool × Sl × Sl) (h : Heap) (Q : (Bool × Sl × Sl × Bool × Sl × Sl) → Heap → Prop) : Prop :=
  mem h fun h0 =>
  delta_both__ratio_Add b (x0.1, x0.2.1, x0.2.2.1, x0.2.2.2.1, x0.2.2.2.2.1, x0.2.2.2.2.2) (y.1, y.2.1, y.2.2.1, y.2.2.2.1, y.2.2.2.2.1, y.2.2.2.2.2) h0 fun v h0u1 =>
  Q (v.1, v.2.1, v.2.2.1, v.2.2.2.1, v.2.2.2.2.1, v.2.2.2.2.2) h0u1
def law03uDeltaTold_c1 (b : (Option Addr)) (c0 : Addr) (c1 : Addr) (h : Heap) (Q : (Bool × Sl × Sl × Bool × Sl × Sl) → Heap → Prop) : Prop :=
  mem h fun h0 =>
  loadS C_bool_sl_sl_bool_sl_sl 6 c0 h0 fun v =>
  loadS C_bool_sl_sl_bool_sl_sl 6 c1 h0 fun v_1 =>
  delta_Add b (v.1, v.2.1, v.2.2.1, v.2.2.2.1, v.2.2.2.2.1, v.2.2.2.2.2) (v_1.1, v_1.2.1, v_1.2.2.1, v_1.2.2.2.1, v_1.2.2.2.2.1, v_1.2.2.2.2.2) h0 fun v_2 h0u1 =>
  Q (v_2.1, v_2.2.1, v_2.2.2.1, v_2.2.2.2.1, v_2.2.2.2.2.1, v_2.2.2.2.2.2) h0u1
def ref03uAdd (x0 : Bool × Sl × Sl × Bool × Sl × Sl) (y : Bool × Sl × Sl × Bool × Sl × Sl) (h : Heap) (Q : (Bool × Sl × Sl × Bool × Sl × Sl) → Heap → Prop) : Prop :=
  mem h fun h0 =>
  ref02uAdd (x0.1, x0.2.1, x0.2.2.1) (y.1, y.2.1, y.2.2.1) h0 fun v h0u1 =>
  ref02uAdd (x0.2.2.2.1, x0.2.2.2.2.1, x0.2.2.2.2.2) (y.2.2.2.1, y.2.2.2.2.1, y.2.2.2.2.2) h0u1 fun v_1 h0u2 =>
  Q (v.1, v.2.1, v.2.2, v_1.1, v_1.2.1, v_1.2.2) h0u2
def ref03uForm (x0 : Bool × Sl × Sl × Bool × Sl × Sl) (h : Heap) (Q : (Bool × Sl × Sl × Bool × Sl × Sl) → Heap → Prop) : Prop :=
  mem h fun h0 =>
  ref02uForm (x0.1, x0.2.1, x0.2.2.1) h0 fun v h0u1 =>
  ref02uForm (x0.2.2.2.1, x0.2.2.2.2.1, x0.2.2.2.2.2) h0u1 fun v_1 h0u2 =>
  Q (v.1, v.2.1, v.2.2, v_1.1, v_1.2.1, v_1.2.2) h0u2
def ref03uSame (x0 : Bool × Sl × Sl × Bool × Sl × Sl) (y : Bool × Sl × Sl × Bool × Sl × Sl) (h : Heap) (Q : Bool → Heap → Prop) : Prop :=
  mem h fun h0 =>
  seq (fun (K0 : Bool → Heap → Prop) =>
   ref02uSame (x0.1, x0.2.1, x0.2.2.1) (y.1, y.2.1, y.2.2.1) h0 fun v h0u2 =>
   iteB v (
    ref02uSame (x0.2.2.2.1, x0.2.2.2.2.1, x0.2.2.2.2.2) (y.2.2.2.1, y.2.2.2.2.1, y.2.2.2.2.2) h0u2 fun v_1 h0u3 =>
    K0 v_1 h0u3
   ) (
    K0 false h0u2
   )
  ) (fun t0 h0u1 =>
   Q t0 h0u1
  )
def delta_both__ratio_Sub (b : (Option Addr)) (x0 : Bool × Sl × Sl × Bool × Sl × Sl) (y : Bool × Sl × Sl × Bool × Sl × Sl) (h : Heap) (Q : (Bool × Sl × Sl × Bool × Sl × Sl) → Heap → Prop) : Prop :=
  mem h fun h0 =>
  seq (fun (K0 : (Bool × Sl × Sl × Bool × Sl × Sl) → Heap → Prop) =>
   mem h0 fun h0u2 =>
   ratio_Sub b (x0.1, x0.2.1, x0.2.2.1) (y.1, y.2.1, y.2.2.1) h0u2 fun v_3 h0u9 =>
   mem h0u9 fun h0u10 =>
   ratio_Sub b (x0.2.2.2.1, x0.2.2.2.2.1, x0.2.2.2.2.2) (y.2.2.2.1, y.2.2.2.2.1, y.2.2.2.2.2) h0u10 fun v_4 h0u11 =>
   mem h0u11 fun h0u12 =>
   K0 (v_3.1, v_3.2.1, v_3.2.2, v_4.1, v_4.2.1, v_4.2.2) h0u12
  ) (fun t0 h0u1 =>
   nat_Bench_Over b h0u1 fun v_5 h0u13 =>
   iteB v_5 (
    Q (false, Sl.nil, Sl.nil, false, Sl.nil, Sl.nil) h0u13
   ) (
    Q (t0.1, t0.2.1, t0.2.2.1, t0.2.2.2.1, t0.2.2.2.2.1, t0.2.2.2.2.2) h0u13
   )
  )
def delta_Sub (b : (Option Addr)) (x0 : Bool × Sl × Sl × Bool × Sl × Sl) (y : Bool × Sl × Sl × Bool × Sl × Sl) (h : Heap) (Q : (Bool × Sl × Sl × Bool × Sl × Sl) → Heap → Prop) : Prop :=
  mem h fun h0 =>
  delta_both__ratio_Sub b (x0.1, x0.2.1, x0.2.2.1, x0.2.2.2.1, x0.2.2.2.2.1, x0.2.2.2.2.2) (y.1, y.2.1, y.2.2.1, y.2.2.2.1, y.2.2.2.2.1, y.2.2.2.2.2) h0 fun v h0u1 =>
  Q (v.1, v.2.1, v.2.2.1, v.2.2.2.1, v.2.2.2.2.1, v.2.2.2.2.2) h0u1
def law03uDeltaTold_c2 (b : (Option Addr)) (c0 : Addr) (c1 : Addr) (h : Heap) (Q : (Bool × Sl × Sl × Bool × Sl × Sl) → Heap → Prop) : Prop :=
  mem h fun h0 =>
  loadS C_bool_sl_sl_bool_sl_sl 6 c0 h0 fun v =>
  loadS C_bool_sl_sl_bool_sl_sl 6 c1 h0 fun v_1 =>
  delta_Sub b (v.1, v.2.1, v.2.2.1, v.2.2.2.1, v.2.2.2.2.1, v.2.2.2.2.2) (v_1.1, v_1.2.1, v_1.2.2.1, v_1.2.2.2.1, v_1.2.2.2.2.1, v_1.2.2.2.2.2) h0 fun v_2 h0u1 =>
  Q (v_2.1, v_2.2.1, v_2.2.2.1, v_2.2.2.2.1, v_2.2.2.2.2.1, v_2.2.2.2.2.2) h0u1
def ref03uNeg (x0 : Bool × Sl × Sl × Bool × Sl × Sl) (h : Heap) (Q : (Bool × Sl × Sl × Bool × Sl × Sl) → Heap → Prop) : Prop :=
  mem h fun h0 =>
  ref02uNeg (x0.1, x0.2.1, x0.2.2.1) h0 fun v h0u1 =>
  ref02uNeg (x0.2.2.2.1, x0.2.2.2.2.1, x0.2.2.2.2.2) h0u1 fun v_1 h0u2 =>
  Q (v.1, v.2.1, v.2.2, v_1.1, v_1.2.1, v_1.2.2) h0u2
def delta_both__ratio_Mul (b : (Option Addr)) (x0 : Bool × Sl × Sl × Bool × Sl × Sl) (y : Bool × Sl × Sl × Bool × Sl × Sl) (h : Heap) (Q : (Bool × Sl × Sl × Bool × Sl × Sl) → Heap → Prop) : Prop :=
  mem h fun h0 =>
  seq (fun (K0 : (Bool × Sl × Sl × Bool × Sl × Sl) → Heap → Prop) =>
   mem h0 fun h0u2 =>
   ratio_Mul b (x0.1, x0.2.1, x0.2.2.1) (y.1, y.2.1, y.2.2.1) h0u2 fun v_3 h0u9 =>
   mem h0u9 fun h0u10 =>
   ratio_Mul b (x0.2.2.2.1, x0.2.2.2.2.1, x0.2.2.2.2.2) (y.2.2.2.1, y.2.2.2.2.1, y.2.2.2.2.2) h0u10 fun v_4 h0u11 =>
   mem h0u11 fun h0u12 =>
   K0 (v_3.1, v_3.2.1, v_3.2.2, v_4.1, v_4.2.1, v_4.2.2) h0u12
  ) (fun t0 h0u1 =>
   nat_Bench_Over b h0u1 fun v_5 h0u13 =>
   iteB v_5 (
    Q (false, Sl.nil, Sl.nil, false, Sl.nil, Sl.nil) h0u13
   ) (
    Q (t0.1, t0.2.1, t0.2.2.1, t0.2.2.2.1, t0.2.2.2.2.1, t0.2.2.2.2.2) h0u13
   )
  )
def delta_Scale (b : (Option Addr)) (k : Bool × Sl × Sl) (x0 : Bool × Sl × Sl × Bool × Sl × Sl) (h : Heap) (Q : (Bool × Sl × Sl × Bool × Sl × Sl) → Heap → Prop) : Prop :=
  mem h fun h0 =>
  delta_both__ratio_Mul b (k.1, k.2.1, k.2.2, k.1, k.2.1, k.2.2) (x0.1, x0.2.1, x0.2.2.1, x0.2.2.2.1, x0.2.2.2.2.1, x0.2.2.2.2.2) h0 fun v h0u1 =>
  Q (v.1, v.2.1, v.2.2.1, v.2.2.2.1, v.2.2.2.2.1, v.2.2.2.2.2) h0u1
def law03uDeltaTold_c3 (b : (Option Addr)) (c0 : Addr) (c1 : Addr) (h : Heap) (Q : (Bool × Sl × Sl × Bool × Sl × Sl) → Heap → Prop) : Prop :=
  mem h fun h0 =>
  loadS C_bool_sl_sl 3 c0 h0 fun v =>
  loadS C_bool_sl_sl_bool_sl_sl 6 c1 h0 fun v_1 =>
  delta_Scale b (v.1, v.2.1, v.2.2) (v_1.1, v_1.2.1, v_1.2.2.1, v_1.2.2.2.1, v_1.2.2.2.2.1, v_1.2.2.2.2.2) h0 fun v_2 h0u1 =>
  Q (v_2.1, v_2.2.1, v_2.2.2.1, v_2.2.2.2.1, v_2.2.2.2.2.1, v_2.2.2.2.2.2) h0u1
def ref03uScale (k : Bool × Sl × Sl) (x0 : Bool × Sl × Sl × Bool × Sl × Sl) (h : Heap) (Q : (Bool × Sl × Sl × Bool × Sl × Sl) → Heap → Prop) : Prop :=
  mem h fun h0 =>
  ref02uMul (k.1, k.2.1, k.2.2) (x0.1, x0.2.1, x0.2.2.1) h0 fun v h0u1 =>
  ref02uMul (k.1, k.2.1, k.2.2) (x0.2.2.2.1, x0.2.2.2.2.1, x0.2.2.2.2.2) h0u1 fun v_1 h0u2 =>
  Q (v.1, v.2.1, v.2.2, v_1.1, v_1.2.1, v_1.2.2) h0u2
def ref03uCmp (x0 : Bool × Sl × Sl × Bool × Sl × Sl) (y : Bool × Sl × Sl × Bool × Sl × Sl) (h : Heap) (Q : Int → Heap → Prop) : Prop :=
  mem h fun h0 =>
  ref02uCmp (x0.1, x0.2.1, x0.2.2.1) (y.1, y.2.1, y.2.2.1) h0 fun v h0u1 =>
  seq (fun (K0 : Int → Heap → Prop) =>
   iteB (v == 0) (
    ref02uCmp (x0.2.2.2.1, x0.2.2.2.2.1, x0.2.2.2.2.2) (y.2.2.2.1, y.2.2.2.2.1, y.2.2.2.2.2) h0u1 fun v_1 h0u3 =>
    K0 v_1 h0u3
   ) (
    K0 v h0u1
   )
  ) (fun t0 h0u2 =>
   Q t0 h0u2
  )
def ref03uText (x0 : Bool × Sl × Sl × Bool × Sl × Sl) (h : Heap) (Q : ByteArray → Heap → Prop) : Prop :=
  mem h fun h0 =>
  ref02uText (x0.1, x0.2.1, x0.2.2.1) h0 fun v h0u1 =>
  iteB (((x0.2.2.2.2.1.len : Nat) : Int) == 0) (
   Q v h0u1
  ) (
   iteB x0.2.2.2.1 (
    ((v.size + (ByteArray.mk #[45]).size : Nat) : Int) ≤ 9223372036854775807 ∧
    ref02uNeg (x0.2.2.2.1, x0.2.2.2.2.1, x0.2.2.2.2.2) h0u1 fun v_1 h0u2 =>
    ref02uText (v_1.1, v_1.2.1, v_1.2.2) h0u2 fun v_2 h0u3 =>
    (((v ++ (ByteArray.mk #[45])).size + v_2.size : Nat) : Int) ≤ 9223372036854775807 ∧
    ((((v ++ (ByteArray.mk #[45])) ++ v_2).size + (ByteArray.mk #[100]).size : Nat) : Int) ≤ 9223372036854775807 ∧
    Q (((v ++ (ByteArray.mk #[45])) ++ v_2) ++ (ByteArray.mk #[100])) h0u3
   ) (
    ((v.size + (ByteArray.mk #[43]).size : Nat) : Int) ≤ 9223372036854775807 ∧
    ref02uText (x0.2.2.2.1, x0.2.2.2.2.1, x0.2.2.2.2.2) h0u1 fun v_3 h0u4 =>
    (((v ++ (ByteArray.mk #[43])).size + v_3.size : Nat) : Int) ≤ 9223372036854775807 ∧
    ((((v ++ (ByteArray.mk #[43])) ++ v_3).size + (ByteArray.mk #[100]).size : Nat) : Int) ≤ 9223372036854775807 ∧
    Q (((v ++ (ByteArray.mk #[43])) ++ v_3) ++ (ByteArray.mk #[100])) h0u4
   )
  )
def law03utold__law03uDeltaTold_c1 (limbs : Int) (do_c : Addr) (do_c_1 : Addr) (want : Bool × Sl × Sl × Bool × Sl × Sl) (h : Heap) (Q : Bool → Heap → Prop) : Prop :=
  mem h fun h0 =>
  nat_New limbs h0 fun v h0u1 =>
  seq (fun (K0 : (Int × Bool × Sl × Sl × Bool × Sl × Sl × Bool × Sl × Sl × Bool × Sl × Sl) → Heap → Prop) =>
   mem h0u1 fun h0u3 =>
   law03uDeltaTold_c1 v do_c do_c_1 h0u3 fun v_10 h0u22 =>
   mem h0u22 fun h0u23 =>
   ref03uForm (want.1, want.2.1, want.2.2.1, want.2.2.2.1, want.2.2.2.2.1, want.2.2.2.2.2) h0u23 fun v_11 h0u24 =>
   mem h0u24 fun h0u25 =>
   K0 ((if 1 > limbs then 1 else limbs), v_10.1, v_10.2.1, v_10.2.2.1, v_10.2.2.2.1, v_10.2.2.2.2.1, v_10.2.2.2.2.2, v_11.1, v_11.2.1, v_11.2.2.1, v_11.2.2.2.1, v_11.2.2.2.2.1, v_11.2.2.2.2.2) h0u25
  ) (fun t0 h0u2 =>
   seq (fun (K0u1 : Bool → Heap → Prop) =>
    ref02uFits (t0.2.2.2.2.2.2.2.1, t0.2.2.2.2.2.2.2.2.1, t0.2.2.2.2.2.2.2.2.2.1) t0.1 h0u2 fun v_17 h0u37 =>
    iteB (!v_17) (
     K0u1 true h0u37
    ) (
     ref02uFits (t0.2.2.2.2.2.2.2.2.2.2.1, t0.2.2.2.2.2.2.2.2.2.2.2.1, t0.2.2.2.2.2.2.2.2.2.2.2.2) t0.1 h0u37 fun v_18 h0u38 =>
     K0u1 (!v_18) h0u38
    )
   ) (fun t0u1 h0u36 =>
    iteB t0u1 (
     seq (fun (K0u2 : Bool → Heap → Prop) =>
      nat_Bench_Over v h0u36 fun v_19 h0u40 =>
      iteB v_19 (
       ref03uSame (t0.2.1, t0.2.2.1, t0.2.2.2.1, t0.2.2.2.2.1, t0.2.2.2.2.2.1, t0.2.2.2.2.2.2.1) (false, Sl.nil, Sl.nil, false, Sl.nil, Sl.nil) h0u40 fun v_20 h0u41 =>
       K0u2 v_20 h0u41
      ) (
       K0u2 false h0u40
      )
     ) (fun t0u2 h0u39 =>
      Q t0u2 h0u39
     )
    ) (
     seq (fun (K0u3 : Bool → Heap → Prop) =>
      nat_Bench_Over v h0u36 fun v_21 h0u43 =>
      iteB (!v_21) (
       ref03uSame (t0.2.1, t0.2.2.1, t0.2.2.2.1, t0.2.2.2.2.1, t0.2.2.2.2.2.1, t0.2.2.2.2.2.2.1) (t0.2.2.2.2.2.2.2.1, t0.2.2.2.2.2.2.2.2.1, t0.2.2.2.2.2.2.2.2.2.1, t0.2.2.2.2.2.2.2.2.2.2.1, t0.2.2.2.2.2.2.2.2.2.2.2.1, t0.2.2.2.2.2.2.2.2.2.2.2.2) h0u43 fun v_22 h0u44 =>
       K0u3 v_22 h0u44
      ) (
       K0u3 false h0u43
      )
     ) (fun t0u3 h0u42 =>
      Q t0u3 h0u42
     )
    )
   )
  )
def law03utold__law03uDeltaTold_c2 (limbs : Int) (do_c : Addr) (do_c_1 : Addr) (want : Bool × Sl × Sl × Bool × Sl × Sl) (h : Heap) (Q : Bool → Heap → Prop) : Prop :=
  mem h fun h0 =>
  nat_New limbs h0 fun v h0u1 =>
  seq (fun (K0 : (Int × Bool × Sl × Sl × Bool × Sl × Sl × Bool × Sl × Sl × Bool × Sl × Sl) → Heap → Prop) =>
   mem h0u1 fun h0u3 =>
   law03uDeltaTold_c2 v do_c do_c_1 h0u3 fun v_10 h0u22 =>
   mem h0u22 fun h0u23 =>
   ref03uForm (want.1, want.2.1, want.2.2.1, want.2.2.2.1, want.2.2.2.2.1, want.2.2.2.2.2) h0u23 fun v_11 h0u24 =>
   mem h0u24 fun h0u25 =>
   K0 ((if 1 > limbs then 1 else limbs), v_10.1, v_10.2.1, v_10.2.2.1, v_10.2.2.2.1, v_10.2.2.2.2.1, v_10.2.2.2.2.2, v_11.1, v_11.2.1, v_11.2.2.1, v_11.2.2.2.1, v_11.2.2.2.2.1, v_11.2.2.2.2.2) h0u25
  ) (fun t0 h0u2 =>
   seq (fun (K0u1 : Bool → Heap → Prop) =>
    ref02uFits (t0.2.2.2.2.2.2.2.1, t0.2.2.2.2.2.2.2.2.1, t0.2.2.2.2.2.2.2.2.2.1) t0.1 h0u2 fun v_17 h0u37 =>
    iteB (!v_17) (
     K0u1 true h0u37
    ) (
     ref02uFits (t0.2.2.2.2.2.2.2.2.2.2.1, t0.2.2.2.2.2.2.2.2.2.2.2.1, t0.2.2.2.2.2.2.2.2.2.2.2.2) t0.1 h0u37 fun v_18 h0u38 =>
     K0u1 (!v_18) h0u38
    )
   ) (fun t0u1 h0u36 =>
    iteB t0u1 (
     seq (fun (K0u2 : Bool → Heap → Prop) =>
      nat_Bench_Over v h0u36 fun v_19 h0u40 =>
      iteB v_19 (
       ref03uSame (t0.2.1, t0.2.2.1, t0.2.2.2.1, t0.2.2.2.2.1, t0.2.2.2.2.2.1, t0.2.2.2.2.2.2.1) (false, Sl.nil, Sl.nil, false, Sl.nil, Sl.nil) h0u40 fun v_20 h0u41 =>
       K0u2 v_20 h0u41
      ) (
       K0u2 false h0u40
      )
     ) (fun t0u2 h0u39 =>
      Q t0u2 h0u39
     )
    ) (
     seq (fun (K0u3 : Bool → Heap → Prop) =>
      nat_Bench_Over v h0u36 fun v_21 h0u43 =>
      iteB (!v_21) (
       ref03uSame (t0.2.1, t0.2.2.1, t0.2.2.2.1, t0.2.2.2.2.1, t0.2.2.2.2.2.1, t0.2.2.2.2.2.2.1) (t0.2.2.2.2.2.2.2.1, t0.2.2.2.2.2.2.2.2.1, t0.2.2.2.2.2.2.2.2.2.1, t0.2.2.2.2.2.2.2.2.2.2.1, t0.2.2.2.2.2.2.2.2.2.2.2.1, t0.2.2.2.2.2.2.2.2.2.2.2.2) h0u43 fun v_22 h0u44 =>
       K0u3 v_22 h0u44
      ) (
       K0u3 false h0u43
      )
     ) (fun t0u3 h0u42 =>
      Q t0u3 h0u42
     )
    )
   )
  )
def law03utold__law03uDeltaTold_c3 (limbs : Int) (do_c : Addr) (do_c_1 : Addr) (want : Bool × Sl × Sl × Bool × Sl × Sl) (h : Heap) (Q : Bool → Heap → Prop) : Prop :=
  mem h fun h0 =>
  nat_New limbs h0 fun v h0u1 =>
  seq (fun (K0 : (Int × Bool × Sl × Sl × Bool × Sl × Sl × Bool × Sl × Sl × Bool × Sl × Sl) → Heap → Prop) =>
   mem h0u1 fun h0u3 =>
   law03uDeltaTold_c3 v do_c do_c_1 h0u3 fun v_10 h0u22 =>
   mem h0u22 fun h0u23 =>
   ref03uForm (want.1, want.2.1, want.2.2.1, want.2.2.2.1, want.2.2.2.2.1, want.2.2.2.2.2) h0u23 fun v_11 h0u24 =>
   mem h0u24 fun h0u25 =>
   K0 ((if 1 > limbs then 1 else limbs), v_10.1, v_10.2.1, v_10.2.2.1, v_10.2.2.2.1, v_10.2.2.2.2.1, v_10.2.2.2.2.2, v_11.1, v_11.2.1, v_11.2.2.1, v_11.2.2.2.1, v_11.2.2.2.2.1, v_11.2.2.2.2.2) h0u25
  ) (fun t0 h0u2 =>
   seq (fun (K0u1 : Bool → Heap → Prop) =>
    ref02uFits (t0.2.2.2.2.2.2.2.1, t0.2.2.2.2.2.2.2.2.1, t0.2.2.2.2.2.2.2.2.2.1) t0.1 h0u2 fun v_17 h0u37 =>
    iteB (!v_17) (
     K0u1 true h0u37
    ) (
     ref02uFits (t0.2.2.2.2.2.2.2.2.2.2.1, t0.2.2.2.2.2.2.2.2.2.2.2.1, t0.2.2.2.2.2.2.2.2.2.2.2.2) t0.1 h0u37 fun v_18 h0u38 =>
     K0u1 (!v_18) h0u38
    )
   ) (fun t0u1 h0u36 =>
    iteB t0u1 (
     seq (fun (K0u2 : Bool → Heap → Prop) =>
      nat_Bench_Over v h0u36 fun v_19 h0u40 =>
      iteB v_19 (
       ref03uSame (t0.2.1, t0.2.2.1, t0.2.2.2.1, t0.2.2.2.2.1, t0.2.2.2.2.2.1, t0.2.2.2.2.2.2.1) (false, Sl.nil, Sl.nil, false, Sl.nil, Sl.nil) h0u40 fun v_20 h0u41 =>
       K0u2 v_20 h0u41
      ) (
       K0u2 false h0u40
      )
     ) (fun t0u2 h0u39 =>
      Q t0u2 h0u39
     )
    ) (
     seq (fun (K0u3 : Bool → Heap → Prop) =>
      nat_Bench_Over v h0u36 fun v_21 h0u43 =>
      iteB (!v_21) (
       ref03uSame (t0.2.1, t0.2.2.1, t0.2.2.2.1, t0.2.2.2.2.1, t0.2.2.2.2.2.1, t0.2.2.2.2.2.2.1) (t0.2.2.2.2.2.2.2.1, t0.2.2.2.2.2.2.2.2.1, t0.2.2.2.2.2.2.2.2.2.1, t0.2.2.2.2.2.2.2.2.2.2.1, t0.2.2.2.2.2.2.2.2.2.2.2.1, t0.2.2.2.2.2.2.2.2.2.2.2.2) h0u43 fun v_22 h0u44 =>
       K0u3 v_22 h0u44
      ) (
       K0u3 false h0u43
      )
     ) (fun t0u3 h0u42 =>
      Q t0u3 h0u42
     )
    )
   )
  )
def law03uDeltaTold (limbs : Int) (x0 : Bool × Sl × Sl × Bool × Sl × Sl) (y : Bool × Sl × Sl × Bool × Sl × Sl) (k : Bool × Sl × Sl) (h : Heap) (Q : Bool → Heap → Prop) : Prop :=
  new [Value.bool x0.1, Sl.toV x0.2.1, Sl.toV x0.2.2.1, Value.bool x0.2.2.2.1, Sl.toV x0.2.2.2.2.1, Sl.toV x0.2.2.2.2.2] h fun x0u1 h0 =>
  new [Value.bool y.1, Sl.toV y.2.1, Sl.toV y.2.2.1, Value.bool y.2.2.2.1, Sl.toV y.2.2.2.2.1, Sl.toV y.2.2.2.2.2] h0 fun y_1 h0u1 =>
  new [Value.bool k.1, Sl.toV k.2.1, Sl.toV k.2.2] h0u1 fun k_1 h0u2 =>
  law03uspeaks h0u2 fun v h0u3 =>
  iteB (!v) (
   Q false h0u3
  ) (
   loadS C_bool_sl_sl_bool_sl_sl 6 x0u1 h0u3 fun v_1 =>
   loadS C_bool_sl_sl_bool_sl_sl 6 y_1 h0u3 fun v_2 =>
   loadS C_bool_sl_sl 3 k_1 h0u3 fun v_3 =>
   new [Value.bool v_1.1, Sl.toV v_1.2.1, Sl.toV v_1.2.2.1, Value.bool v_1.2.2.2.1, Sl.toV v_1.2.2.2.2.1, Sl.toV v_1.2.2.2.2.2, Value.bool v_2.1, Sl.toV v_2.2.1, Sl.toV v_2.2.2.1, Value.bool v_2.2.2.2.1, Sl.toV v_2.2.2.2.2.1, Sl.toV v_2.2.2.2.2.2, Value.bool v_3.1, Sl.toV v_3.2.1, Sl.toV v_3.2.2, Value.bool false, Sl.toV Sl.nil, Sl.toV Sl.nil] h0u3 fun a h0u4 =>
   law03uOdd (⟨some a, 3, 3⟩ : Sl) h0u4 fun v_5 h0u5 =>
   iteB v_5 (
    Q true h0u5
   ) (
    seq (fun (K0 : (Bool × Sl × Sl × Bool × Sl × Sl × Bool × Sl × Sl × Bool × Sl × Sl) → Heap → Prop) =>
     loadS C_bool_sl_sl_bool_sl_sl 6 x0u1 h0u5 fun v_6 =>
     loadS C_bool_sl_sl_bool_sl_sl 6 y_1 h0u5 fun v_7 =>
     mem h0u5 fun h0u7 =>
     ref03uOf (v_6.1, v_6.2.1, v_6.2.2.1, v_6.2.2.2.1, v_6.2.2.2.2.1, v_6.2.2.2.2.2) h0u7 fun v_17 h0u26 =>
     (cells? h0u26 y_1 6 0 = some [Value.bool v_7.1, Sl.toV v_7.2.1, Sl.toV v_7.2.2.1, Value.bool v_7.2.2.2.1, Sl.toV v_7.2.2.2.2.1, Sl.toV v_7.2.2.2.2.2]) ∧
     mem h0u26 fun h0u27 =>
     ref03uOf (v_7.1, v_7.2.1, v_7.2.2.1, v_7.2.2.2.1, v_7.2.2.2.2.1, v_7.2.2.2.2.2) h0u27 fun v_18 h0u28 =>
     mem h0u28 fun h0u29 =>
     K0 (v_17.1, v_17.2.1, v_17.2.2.1, v_17.2.2.2.1, v_17.2.2.2.2.1, v_17.2.2.2.2.2, v_18.1, v_18.2.1, v_18.2.2.1, v_18.2.2.2.1, v_18.2.2.2.2.1, v_18.2.2.2.2.2) h0u29
    ) (fun t0 h0u6 =>
     seq (fun (K0u1 : Bool → Heap → Prop) =>
      ref03uAdd (t0.1, t0.2.1, t0.2.2.1, t0.2.2.2.1, t0.2.2.2.2.1, t0.2.2.2.2.2.1) (t0.2.2.2.2.2.2.1, t0.2.2.2.2.2.2.2.1, t0.2.2.2.2.2.2.2.2.1, t0.2.2.2.2.2.2.2.2.2.1, t0.2.2.2.2.2.2.2.2.2.2.1, t0.2.2.2.2.2.2.2.2.2.2.2) h0u6 fun v_24 h0u41 =>
      law03utold__law03uDeltaTold_c1 limbs x0u1 y_1 (v_24.1, v_24.2.1, v_24.2.2.1, v_24.2.2.2.1, v_24.2.2.2.2.1, v_24.2.2.2.2.2) h0u41 fun v_25 h0u42 =>
      iteB v_25 (
       ref03uNeg (t0.2.2.2.2.2.2.1, t0.2.2.2.2.2.2.2.1, t0.2.2.2.2.2.2.2.2.1, t0.2.2.2.2.2.2.2.2.2.1, t0.2.2.2.2.2.2.2.2.2.2.1, t0.2.2.2.2.2.2.2.2.2.2.2) h0u42 fun v_26 h0u43 =>
       ref03uAdd (t0.1, t0.2.1, t0.2.2.1, t0.2.2.2.1, t0.2.2.2.2.1, t0.2.2.2.2.2.1) (v_26.1, v_26.2.1, v_26.2.2.1, v_26.2.2.2.1, v_26.2.2.2.2.1, v_26.2.2.2.2.2) h0u43 fun v_27 h0u44 =>
       law03utold__law03uDeltaTold_c2 limbs x0u1 y_1 (v_27.1, v_27.2.1, v_27.2.2.1, v_27.2.2.2.1, v_27.2.2.2.2.1, v_27.2.2.2.2.2) h0u44 fun v_28 h0u45 =>
       iteB v_28 (
        loadS C_bool_sl_sl 3 k_1 h0u45 fun v_29 =>
        ref02uOf (v_29.1, v_29.2.1, v_29.2.2) h0u45 fun v_30 h0u46 =>
        ref03uScale (v_30.1, v_30.2.1, v_30.2.2) (t0.1, t0.2.1, t0.2.2.1, t0.2.2.2.1, t0.2.2.2.2.1, t0.2.2.2.2.2.1) h0u46 fun v_31 h0u47 =>
        law03utold__law03uDeltaTold_c3 limbs k_1 x0u1 (v_31.1, v_31.2.1, v_31.2.2.1, v_31.2.2.2.1, v_31.2.2.2.2.1, v_31.2.2.2.2.2) h0u47 fun v_32 h0u48 =>
        iteB v_32 (
         loadS C_bool_sl_sl_bool_sl_sl 6 x0u1 h0u48 fun v_33 =>
         loadS C_bool_sl_sl_bool_sl_sl 6 y_1 h0u48 fun v_34 =>
         delta_Cmp (v_33.1, v_33.2.1, v_33.2.2.1, v_33.2.2.2.1, v_33.2.2.2.2.1, v_33.2.2.2.2.2) (v_34.1, v_34.2.1, v_34.2.2.1, v_34.2.2.2.1, v_34.2.2.2.2.1, v_34.2.2.2.2.2) h0u48 fun v_35 h0u49 =>
         ref03uCmp (t0.1, t0.2.1, t0.2.2.1, t0.2.2.2.1, t0.2.2.2.2.1, t0.2.2.2.2.2.1) (t0.2.2.2.2.2.2.1, t0.2.2.2.2.2.2.2.1, t0.2.2.2.2.2.2.2.2.1, t0.2.2.2.2.2.2.2.2.2.1, t0.2.2.2.2.2.2.2.2.2.2.1, t0.2.2.2.2.2.2.2.2.2.2.2) h0u49 fun v_36 h0u50 =>
         iteB (v_35 == v_36) (
          loadS C_bool_sl_sl_bool_sl_sl 6 x0u1 h0u50 fun v_37 =>
          delta_Text (v_37.1, v_37.2.1, v_37.2.2.1, v_37.2.2.2.1, v_37.2.2.2.2.1, v_37.2.2.2.2.2) h0u50 fun v_38 h0u51 =>
          ref03uText (t0.1, t0.2.1, t0.2.2.1, t0.2.2.2.1, t0.2.2.2.2.1, t0.2.2.2.2.2.1) h0u51 fun v_39 h0u52 =>
          iteB (v_38.toList == v_39.toList) (
           loadS C_bool_sl_sl 3 k_1 h0u52 fun v_40 =>
           loadS C_bool_sl_sl 3 k_1 h0u52 fun v_41 =>
           delta_Of (v_40.1, v_40.2.1, v_40.2.2) h0u52 fun v_42 h0u53 =>
           (cells? h0u53 k_1 3 0 = some [Value.bool v_41.1, Sl.toV v_41.2.1, Sl.toV v_41.2.2]) ∧
           ref03uSame (v_42.1, v_42.2.1, v_42.2.2.1, v_42.2.2.2.1, v_42.2.2.2.2.1, v_42.2.2.2.2.2) (v_41.1, v_41.2.1, v_41.2.2, false, Sl.nil, Sl.nil) h0u53 fun v_43 h0u54 =>
           K0u1 v_43 h0u54
          ) (
           K0u1 false h0u52
          )
         ) (
          K0u1 false h0u50
         )
        ) (
         K0u1 false h0u48
        )
       ) (
        K0u1 false h0u45
       )
      ) (
       K0u1 false h0u42
      )
     ) (fun t0u1 h0u40 =>
      Q t0u1 h0u40
     )
    )
   )
  )
def law03uDeltaRules (x0 : Bool × Sl × Sl × Bool × Sl × Sl) (y : Bool × Sl × Sl × Bool × Sl × Sl) (z : Bool × Sl × Sl × Bool × Sl × Sl) (k : Bool × Sl × Sl) (h : Heap) (Q : Bool → Heap → Prop) : Prop :=
  mem h fun h0 =>
  law03uspeaks h0 fun v h0u1 =>
  iteB (!v) (
   Q false h0u1
  ) (
   new [Value.bool x0.1, Sl.toV x0.2.1, Sl.toV x0.2.2.1, Value.bool x0.2.2.2.1, Sl.toV x0.2.2.2.2.1, Sl.toV x0.2.2.2.2.2, Value.bool y.1, Sl.toV y.2.1, Sl.toV y.2.2.1, Value.bool y.2.2.2.1, Sl.toV y.2.2.2.2.1, Sl.toV y.2.2.2.2.2, Value.bool z.1, Sl.toV z.2.1, Sl.toV z.2.2.1, Value.bool z.2.2.2.1, Sl.toV z.2.2.2.2.1, Sl.toV z.2.2.2.2.2, Value.bool k.1, Sl.toV k.2.1, Sl.toV k.2.2, Value.bool false, Sl.toV Sl.nil, Sl.toV Sl.nil] h0u1 fun a h0u2 =>
   law03uOdd (⟨some a, 4, 4⟩ : Sl) h0u2 fun v_2 h0u3 =>
   iteB v_2 (
    Q true h0u3
   ) (
    nat_New 1000 h0u3 fun v_3 h0u4 =>
    delta_Cmp (x0.1, x0.2.1, x0.2.2.1, x0.2.2.2.1, x0.2.2.2.2.1, x0.2.2.2.2.2) (y.1, y.2.1, y.2.2.1, y.2.2.2.1, y.2.2.2.2.1, y.2.2.2.2.2) h0u4 fun v_4 h0u5 =>
    seq (fun (K0 : Bool → Heap → Prop) =>
     delta_Add v_3 (x0.1, x0.2.1, x0.2.2.1, x0.2.2.2.1, x0.2.2.2.2.1, x0.2.2.2.2.2) (z.1, z.2.1, z.2.2.1, z.2.2.2.1, z.2.2.2.2.1, z.2.2.2.2.2) h0u5 fun v_5 h0u7 =>
     delta_Add v_3 (y.1, y.2.1, y.2.2.1, y.2.2.2.1, y.2.2.2.2.1, y.2.2.2.2.2) (z.1, z.2.1, z.2.2.1, z.2.2.2.1, z.2.2.2.2.1, z.2.2.2.2.2) h0u7 fun v_6 h0u8 =>
     delta_Cmp (v_5.1, v_5.2.1, v_5.2.2.1, v_5.2.2.2.1, v_5.2.2.2.2.1, v_5.2.2.2.2.2) (v_6.1, v_6.2.1, v_6.2.2.1, v_6.2.2.2.1, v_6.2.2.2.2.1, v_6.2.2.2.2.2) h0u8 fun v_7 h0u9 =>
     iteB (v_4 != v_7) (
      K0 true h0u9
     ) (
      delta_Cmp (y.1, y.2.1, y.2.2.1, y.2.2.2.1, y.2.2.2.2.1, y.2.2.2.2.2) (x0.1, x0.2.1, x0.2.2.1, x0.2.2.2.1, x0.2.2.2.2.1, x0.2.2.2.2.2) h0u9 fun v_8 h0u10 =>
      iteB (v_4 != (IntKind.wrap .i64 (0 - v_8))) (
       K0 true h0u10
      ) (
       delta_Add v_3 (x0.1, x0.2.1, x0.2.2.1, x0.2.2.2.1, x0.2.2.2.2.1, x0.2.2.2.2.2) (y.1, y.2.1, y.2.2.1, y.2.2.2.1, y.2.2.2.2.1, y.2.2.2.2.2) h0u10 fun v_9 h0u11 =>
       delta_Sub v_3 (v_9.1, v_9.2.1, v_9.2.2.1, v_9.2.2.2.1, v_9.2.2.2.2.1, v_9.2.2.2.2.2) (y.1, y.2.1, y.2.2.1, y.2.2.2.1, y.2.2.2.2.1, y.2.2.2.2.2) h0u11 fun v_10 h0u12 =>
       ref03uSame (v_10.1, v_10.2.1, v_10.2.2.1, v_10.2.2.2.1, v_10.2.2.2.2.1, v_10.2.2.2.2.2) (x0.1, x0.2.1, x0.2.2.1, x0.2.2.2.1, x0.2.2.2.2.1, x0.2.2.2.2.2) h0u12 fun v_11 h0u13 =>
       K0 (!v_11) h0u13
      )
     )
    ) (fun t0 h0u6 =>
     iteB t0 (
      Q false h0u6
     ) (
      delta_Scale v_3 (k.1, k.2.1, k.2.2) (x0.1, x0.2.1, x0.2.2.1, x0.2.2.2.1, x0.2.2.2.2.1, x0.2.2.2.2.2) h0u6 fun v_12 h0u14 =>
      delta_Scale v_3 (k.1, k.2.1, k.2.2) (y.1, y.2.1, y.2.2.1, y.2.2.2.1, y.2.2.2.2.1, y.2.2.2.2.2) h0u14 fun v_13 h0u15 =>
      delta_Cmp (v_12.1, v_12.2.1, v_12.2.2.1, v_12.2.2.2.1, v_12.2.2.2.2.1, v_12.2.2.2.2.2) (v_13.1, v_13.2.1, v_13.2.2.1, v_13.2.2.2.1, v_13.2.2.2.2.1, v_13.2.2.2.2.2) h0u15 fun v_14 h0u16 =>
      ratio_Sign (k.1, k.2.1, k.2.2) h0u16 fun v_15 h0u17 =>
      iteB (v_14 != (IntKind.wrap .i64 (v_4 * v_15))) (
       Q false h0u17
      ) (
       mem h0u17 fun h0u18 =>
       seq (fun (K0u1 : Bool → Heap → Prop) =>
        ratio_Cmp (x0.1, x0.2.1, x0.2.2.1) (y.1, y.2.1, y.2.2.1) h0u18 fun v_16 h0u20 =>
        iteB (v_16 == 0) (
         K0u1 true h0u20
        ) (
         delta_Cmp (x0.1, x0.2.1, x0.2.2.1, z.2.2.2.1, z.2.2.2.2.1, z.2.2.2.2.2) (y.1, y.2.1, y.2.2.1, y.2.2.2.1, y.2.2.2.2.1, y.2.2.2.2.2) h0u20 fun v_17 h0u21 =>
         K0u1 (v_17 == v_4) h0u21
        )
       ) (fun t0u1 h0u19 =>
        Q t0u1 h0u19
       )
      )
     )
    )
   )
  )
def delta_Small (b : (Option Addr)) (pairs : Sl) (h : Heap) (Q : (Bool × Sl × Sl) → Heap → Prop) : Prop :=
  mem h fun h0 =>
  ratio_Of 1 h0 fun v h0u1 =>
  mem h0u1 fun h0u2 =>
  loop (fun (s0 : Int × Bool × Sl × Sl) h0u3 (K0 : (Int × Bool × Sl × Sl) → Heap → Prop) =>
   iteB (decide (s0.1 < ((pairs.len : Nat) : Int))) (
    seq (fun (K0u1 : (Bool × Sl × Sl) → Heap → Prop) =>
     idxS pairs s0.1 12 fun a =>
     loadS C_bool_sl_sl_bool_sl_sl_bool_sl_sl_bool_sl_sl 12 a h0u3 fun v_1 =>
     mem h0u3 fun h0u5 =>
     seq (fun (K0u2 : Bool → Heap → Prop) =>
      ratio_Cmp (v_1.1, v_1.2.1, v_1.2.2.1) (v_1.2.2.2.2.2.2.1, v_1.2.2.2.2.2.2.2.1, v_1.2.2.2.2.2.2.2.2.1) h0u5 fun v_2 h0u7 =>
      iteB (decide (v_2 ≥ 0)) (
       K0u2 true h0u7
      ) (
       ratio_Cmp (v_1.2.2.2.1, v_1.2.2.2.2.1, v_1.2.2.2.2.2.1) (v_1.2.2.2.2.2.2.2.2.2.1, v_1.2.2.2.2.2.2.2.2.2.2.1, v_1.2.2.2.2.2.2.2.2.2.2.2) h0u7 fun v_3 h0u8 =>
       K0u2 (decide (v_3 ≤ 0)) h0u8
      )
     ) (fun t0u1 h0u6 =>
      iteB t0u1 (
       K0u1 (s0.2.1, s0.2.2.1, s0.2.2.2) h0u6
      ) (
       seq (fun (K0u3 : (Bool × Sl × Sl) → Heap → Prop) =>
        mem h0u6 fun h0u10 =>
        ratio_Sub b (v_1.2.2.2.2.2.2.1, v_1.2.2.2.2.2.2.2.1, v_1.2.2.2.2.2.2.2.2.1) (v_1.1, v_1.2.1, v_1.2.2.1) h0u10 fun v_10 h0u23 =>
        mem h0u23 fun h0u24 =>
        ratio_Sub b (v_1.2.2.2.1, v_1.2.2.2.2.1, v_1.2.2.2.2.2.1) (v_1.2.2.2.2.2.2.2.2.2.1, v_1.2.2.2.2.2.2.2.2.2.2.1, v_1.2.2.2.2.2.2.2.2.2.2.2) h0u24 fun v_11 h0u25 =>
        mem h0u25 fun h0u26 =>
        ratio_Div b (v_10.1, v_10.2.1, v_10.2.2) (v_11.1, v_11.2.1, v_11.2.2) h0u26 fun v_12 h0u27 =>
        mem h0u27 fun h0u28 =>
        K0u3 (v_12.1, v_12.2.1, v_12.2.2) h0u28
       ) (fun t0u2 h0u9 =>
        ratio_Cmp (t0u2.1, t0u2.2.1, t0u2.2.2) (s0.2.1, s0.2.2.1, s0.2.2.2) h0u9 fun v_13 h0u29 =>
        iteB (decide (v_13 < 0)) (
         K0u1 (t0u2.1, t0u2.2.1, t0u2.2.2) h0u29
        ) (
         K0u1 (s0.2.1, s0.2.2.1, s0.2.2.2) h0u29
        )
       )
      )
     )
    ) (fun t0 h0u4 =>
     K0 (IntKind.wrap .i64 (s0.1 + 1), t0.1, t0.2.1, t0.2.2) h0u4
    )
   ) (
    nat_Bench_Over b h0u3 fun v_14 h0u30 =>
    iteB v_14 (
     Q (false, Sl.nil, Sl.nil) h0u30
    ) (
     Q (s0.2.1, s0.2.2.1, s0.2.2.2) h0u30
    )
   )
  ) (0, v.1, v.2.1, v.2.2) h0u2
def ref03uSmall (pairs : Sl) (h : Heap) (Q : (Bool × Sl × Sl) → Heap → Prop) : Prop :=
  mem h fun h0 =>
  ref02uInt 1 h0 fun v h0u1 =>
  mem h0u1 fun h0u2 =>
  loop (fun (s0 : Int × Bool × Sl × Sl) h0u3 (K0 : (Int × Bool × Sl × Sl) → Heap → Prop) =>
   iteB (decide (s0.1 < ((pairs.len : Nat) : Int))) (
    seq (fun (K0u1 : (Bool × Sl × Sl) → Heap → Prop) =>
     seq (fun (K0u2 : (Bool × Sl × Sl) → Heap → Prop) =>
      idxS pairs s0.1 12 fun a =>
      ((0 : Int) ≤ (1 : Int) ∧ (1 : Int) < 2) ∧
      loadS C_bool_sl_sl 3 ((a.add (Int.toNat 1 * 6)).add 0) h0u3 fun v_1 =>
      idxS pairs s0.1 12 fun a_1 =>
      ((0 : Int) ≤ (0 : Int) ∧ (0 : Int) < 2) ∧
      loadS C_bool_sl_sl 3 ((a_1.add (Int.toNat 0 * 6)).add 0) h0u3 fun v_2 =>
      mem h0u3 fun h0u6 =>
      ref02uNeg (v_2.1, v_2.2.1, v_2.2.2) h0u6 fun v_6 h0u13 =>
      (cells? h0u13 ((a.add (Int.toNat 1 * 6)).add 0) 3 0 = some [Value.bool v_1.1, Sl.toV v_1.2.1, Sl.toV v_1.2.2]) ∧
      mem h0u13 fun h0u14 =>
      ref02uAdd (v_1.1, v_1.2.1, v_1.2.2) (v_6.1, v_6.2.1, v_6.2.2) h0u14 fun v_7 h0u15 =>
      mem h0u15 fun h0u16 =>
      K0u2 (v_7.1, v_7.2.1, v_7.2.2) h0u16
     ) (fun t0u1 h0u5 =>
      seq (fun (K0u3 : (Bool × Sl × Sl) → Heap → Prop) =>
       idxS pairs s0.1 12 fun a_2 =>
       ((0 : Int) ≤ (0 : Int) ∧ (0 : Int) < 2) ∧
       loadS C_bool_sl_sl 3 ((a_2.add (Int.toNat 0 * 6)).add 3) h0u5 fun v_8 =>
       idxS pairs s0.1 12 fun a_3 =>
       ((0 : Int) ≤ (1 : Int) ∧ (1 : Int) < 2) ∧
       loadS C_bool_sl_sl 3 ((a_3.add (Int.toNat 1 * 6)).add 3) h0u5 fun v_9 =>
       mem h0u5 fun h0u18 =>
       ref02uNeg (v_9.1, v_9.2.1, v_9.2.2) h0u18 fun v_13 h0u25 =>
       (cells? h0u25 ((a_2.add (Int.toNat 0 * 6)).add 3) 3 0 = some [Value.bool v_8.1, Sl.toV v_8.2.1, Sl.toV v_8.2.2]) ∧
       mem h0u25 fun h0u26 =>
       ref02uAdd (v_8.1, v_8.2.1, v_8.2.2) (v_13.1, v_13.2.1, v_13.2.2) h0u26 fun v_14 h0u27 =>
       mem h0u27 fun h0u28 =>
       K0u3 (v_14.1, v_14.2.1, v_14.2.2) h0u28
      ) (fun t0u2 h0u17 =>
       ref02uInt 0 h0u17 fun v_15 h0u29 =>
       mem h0u29 fun h0u30 =>
       seq (fun (K0u4 : Bool → Heap → Prop) =>
        ref02uCmp (t0u1.1, t0u1.2.1, t0u1.2.2) (v_15.1, v_15.2.1, v_15.2.2) h0u30 fun v_16 h0u32 =>
        iteB (decide (v_16 > 0)) (
         ref02uCmp (t0u2.1, t0u2.2.1, t0u2.2.2) (v_15.1, v_15.2.1, v_15.2.2) h0u32 fun v_17 h0u33 =>
         K0u4 (decide (v_17 > 0)) h0u33
        ) (
         K0u4 false h0u32
        )
       ) (fun t0u3 h0u31 =>
        iteB t0u3 (
         ref02uDiv (t0u1.1, t0u1.2.1, t0u1.2.2) (t0u2.1, t0u2.2.1, t0u2.2.2) h0u31 fun v_18 h0u34 =>
         mem h0u34 fun h0u35 =>
         ref02uCmp (v_18.1, v_18.2.1, v_18.2.2) (s0.2.1, s0.2.2.1, s0.2.2.2) h0u35 fun v_19 h0u36 =>
         iteB (decide (v_19 < 0)) (
          K0u1 (v_18.1, v_18.2.1, v_18.2.2) h0u36
         ) (
          K0u1 (s0.2.1, s0.2.2.1, s0.2.2.2) h0u36
         )
        ) (
         K0u1 (s0.2.1, s0.2.2.1, s0.2.2.2) h0u31
        )
       )
      )
     )
    ) (fun t0 h0u4 =>
     Let (IntKind.wrap .i64 (s0.1 + 1) : Int) fun i =>
     K0 (i, t0.1, t0.2.1, t0.2.2) h0u4
    )
   ) (
    Q (s0.2.1, s0.2.2.1, s0.2.2.2) h0u3
   )
  ) (0, v.1, v.2.1, v.2.2) h0u2
def delta_At (b : (Option Addr)) (x0 : Bool × Sl × Sl × Bool × Sl × Sl) (d : Bool × Sl × Sl) (h : Heap) (Q : (Bool × Sl × Sl) → Heap → Prop) : Prop :=
  mem h fun h0 =>
  ratio_Mul b (x0.2.2.2.1, x0.2.2.2.2.1, x0.2.2.2.2.2) (d.1, d.2.1, d.2.2) h0 fun v h0u1 =>
  ratio_Add b (x0.1, x0.2.1, x0.2.2.1) (v.1, v.2.1, v.2.2) h0u1 fun v_1 h0u2 =>
  Q (v_1.1, v_1.2.1, v_1.2.2) h0u2
def ref03uAt (x0 : Bool × Sl × Sl × Bool × Sl × Sl) (d : Bool × Sl × Sl) (h : Heap) (Q : (Bool × Sl × Sl) → Heap → Prop) : Prop :=
  mem h fun h0 =>
  ref02uMul (x0.2.2.2.1, x0.2.2.2.2.1, x0.2.2.2.2.2) (d.1, d.2.1, d.2.2) h0 fun v h0u1 =>
  ref02uAdd (x0.1, x0.2.1, x0.2.2.1) (v.1, v.2.1, v.2.2) h0u1 fun v_1 h0u2 =>
  Q (v_1.1, v_1.2.1, v_1.2.2) h0u2
def law03uDeltaSmall (pairs : Sl) (part : Int) (h : Heap) (Q : Bool → Heap → Prop) : Prop :=
  law03uspeaks h fun v h0 =>
  iteB (!v) (
   Q false h0
  ) (
   iteB (decide (((pairs.len : Nat) : Int) > 20)) (
    Q true h0
   ) (
    new [] h0 fun a h0u1 =>
    Let ((⟨some a, 0, 0⟩ : Sl) : Sl) fun list =>
    loop (fun (s0 : Sl × Int) h0u2 (K0 : (Sl × Int) → Heap → Prop) =>
     iteB (decide (s0.2 < ((pairs.len : Nat) : Int))) (
      idxS pairs s0.2 12 fun a_1 =>
      loadS C_bool_sl_sl_bool_sl_sl_bool_sl_sl_bool_sl_sl 12 a_1 h0u2 fun v_2 =>
      mem h0u2 fun h0u3 =>
      new [Value.bool v_2.1, Sl.toV v_2.2.1, Sl.toV v_2.2.2.1, Value.bool v_2.2.2.2.1, Sl.toV v_2.2.2.2.2.1, Sl.toV v_2.2.2.2.2.2.1, Value.bool v_2.2.2.2.2.2.2.1, Sl.toV v_2.2.2.2.2.2.2.2.1, Sl.toV v_2.2.2.2.2.2.2.2.2.1, Value.bool v_2.2.2.2.2.2.2.2.2.2.1, Sl.toV v_2.2.2.2.2.2.2.2.2.2.2.1, Sl.toV v_2.2.2.2.2.2.2.2.2.2.2.2] h0u3 fun a_2 h0u4 =>
      law03uOdd (⟨some a_2, 2, 2⟩ : Sl) h0u4 fun v_4 h0u5 =>
      iteB v_4 (
       Q true h0u5
      ) (
       ref03uOf (v_2.1, v_2.2.1, v_2.2.2.1, v_2.2.2.2.1, v_2.2.2.2.2.1, v_2.2.2.2.2.2.1) h0u5 fun v_5 h0u6 =>
       ref03uOf (v_2.2.2.2.2.2.2.1, v_2.2.2.2.2.2.2.2.1, v_2.2.2.2.2.2.2.2.2.1, v_2.2.2.2.2.2.2.2.2.2.1, v_2.2.2.2.2.2.2.2.2.2.2.1, v_2.2.2.2.2.2.2.2.2.2.2.2) h0u6 fun v_6 h0u7 =>
       new [Value.bool v_5.1, Sl.toV v_5.2.1, Sl.toV v_5.2.2.1, Value.bool v_5.2.2.2.1, Sl.toV v_5.2.2.2.2.1, Sl.toV v_5.2.2.2.2.2, Value.bool v_6.1, Sl.toV v_6.2.1, Sl.toV v_6.2.2.1, Value.bool v_6.2.2.2.1, Sl.toV v_6.2.2.2.2.1, Sl.toV v_6.2.2.2.2.2] h0u7 fun a_3 h0u8 =>
       appendS 12 224 s0.1 (⟨some a_3, 1, 1⟩ : Sl) h0u8 fun v_8 h0u9 =>
       K0 (v_8, IntKind.wrap .i64 (s0.2 + 1)) h0u9
      )
     ) (
      nat_New 1000 h0u2 fun v_9 h0u10 =>
      delta_Small v_9 pairs h0u10 fun v_10 h0u11 =>
      mem h0u11 fun h0u12 =>
      seq (fun (K0u1 : Bool → Heap → Prop) =>
       ref03uSmall s0.1 h0u12 fun v_11 h0u14 =>
       ref02uForm (v_11.1, v_11.2.1, v_11.2.2) h0u14 fun v_12 h0u15 =>
       ref02uSame (v_10.1, v_10.2.1, v_10.2.2) (v_12.1, v_12.2.1, v_12.2.2) h0u15 fun v_13 h0u16 =>
       iteB (!v_13) (
        K0u1 true h0u16
       ) (
        nat_Bench_Over v_9 h0u16 fun v_14 h0u17 =>
        K0u1 v_14 h0u17
       )
      ) (fun t0 h0u13 =>
       iteB t0 (
        Q false h0u13
       ) (
        ratio_Of (IntKind.wrap .i64 ((IntKind.wrap .i64 (((BitVec.ofInt (IntKind.bits .i64) part &&& BitVec.ofInt (IntKind.bits .i64) 255).toNat : Int))) + 1)) h0u13 fun v_15 h0u18 =>
        ratio_Div v_9 (v_10.1, v_10.2.1, v_10.2.2) (v_15.1, v_15.2.1, v_15.2.2) h0u18 fun v_16 h0u19 =>
        new [Value.bool v_10.1, Sl.toV v_10.2.1, Sl.toV v_10.2.2, Value.bool v_16.1, Sl.toV v_16.2.1, Sl.toV v_16.2.2] h0u19 fun a_4 h0u20 =>
        loop (fun (s0u1 : Int) h0u21 (K0u2 : Int → Heap → Prop) =>
         iteB (decide (s0u1 < (((⟨some a_4, 2, 2⟩ : Sl).len : Nat) : Int))) (
          idxS (⟨some a_4, 2, 2⟩ : Sl) s0u1 3 fun a_5 =>
          loadS C_bool_sl_sl 3 a_5 h0u21 fun v_18 =>
          mem h0u21 fun h0u22 =>
          loop (fun (s0u2 : Int) h0u23 (K0u3 : Int → Heap → Prop) =>
           iteB (decide (s0u2 < ((pairs.len : Nat) : Int))) (
            idxS pairs s0u2 12 fun a_6 =>
            loadS C_bool_sl_sl_bool_sl_sl_bool_sl_sl_bool_sl_sl 12 a_6 h0u23 fun v_19 =>
            mem h0u23 fun h0u24 =>
            seq (fun (K0u4 : (Bool × Sl × Sl × Bool × Sl × Sl) → Heap → Prop) =>
             mem h0u24 fun h0u26 =>
             delta_At v_9 (v_19.1, v_19.2.1, v_19.2.2.1, v_19.2.2.2.1, v_19.2.2.2.2.1, v_19.2.2.2.2.2.1) (v_18.1, v_18.2.1, v_18.2.2) h0u26 fun v_29 h0u45 =>
             mem h0u45 fun h0u46 =>
             delta_At v_9 (v_19.2.2.2.2.2.2.1, v_19.2.2.2.2.2.2.2.1, v_19.2.2.2.2.2.2.2.2.1, v_19.2.2.2.2.2.2.2.2.2.1, v_19.2.2.2.2.2.2.2.2.2.2.1, v_19.2.2.2.2.2.2.2.2.2.2.2) (v_18.1, v_18.2.1, v_18.2.2) h0u46 fun v_30 h0u47 =>
             mem h0u47 fun h0u48 =>
             K0u4 (v_29.1, v_29.2.1, v_29.2.2, v_30.1, v_30.2.1, v_30.2.2) h0u48
            ) (fun t0u1 h0u25 =>
             idxS s0.1 s0u2 12 fun a_7 =>
             ((0 : Int) ≤ (0 : Int) ∧ (0 : Int) < 2) ∧
             loadS C_bool_sl_sl_bool_sl_sl 6 (a_7.add (Int.toNat 0 * 6)) h0u25 fun v_36 =>
             ref02uOf (v_18.1, v_18.2.1, v_18.2.2) h0u25 fun v_37 h0u59 =>
             (cells? h0u59 (a_7.add (Int.toNat 0 * 6)) 6 0 = some [Value.bool v_36.1, Sl.toV v_36.2.1, Sl.toV v_36.2.2.1, Value.bool v_36.2.2.2.1, Sl.toV v_36.2.2.2.2.1, Sl.toV v_36.2.2.2.2.2]) ∧
             ref03uAt (v_36.1, v_36.2.1, v_36.2.2.1, v_36.2.2.2.1, v_36.2.2.2.2.1, v_36.2.2.2.2.2) (v_37.1, v_37.2.1, v_37.2.2) h0u59 fun v_38 h0u60 =>
             ref02uForm (v_38.1, v_38.2.1, v_38.2.2) h0u60 fun v_39 h0u61 =>
             ref02uSame (t0u1.1, t0u1.2.1, t0u1.2.2.1) (v_39.1, v_39.2.1, v_39.2.2) h0u61 fun v_40 h0u62 =>
             iteB (!v_40) (
              Q false h0u62
             ) (
              seq (fun (K0u5 : Bool → Heap → Prop) =>
               idxS s0.1 s0u2 12 fun a_8 =>
               ((0 : Int) ≤ (0 : Int) ∧ (0 : Int) < 2) ∧
               loadS C_bool_sl_sl_bool_sl_sl 6 (a_8.add (Int.toNat 0 * 6)) h0u62 fun v_41 =>
               idxS s0.1 s0u2 12 fun a_9 =>
               ((0 : Int) ≤ (1 : Int) ∧ (1 : Int) < 2) ∧
               loadS C_bool_sl_sl_bool_sl_sl 6 (a_9.add (Int.toNat 1 * 6)) h0u62 fun v_42 =>
               ref03uCmp (v_41.1, v_41.2.1, v_41.2.2.1, v_41.2.2.2.1, v_41.2.2.2.2.1, v_41.2.2.2.2.2) (v_42.1, v_42.2.1, v_42.2.2.1, v_42.2.2.2.1, v_42.2.2.2.2.1, v_42.2.2.2.2.2) h0u62 fun v_43 h0u64 =>
               iteB (decide (v_43 ≤ 0)) (
                ref02uOf (t0u1.1, t0u1.2.1, t0u1.2.2.1) h0u64 fun v_44 h0u65 =>
                ref02uOf (t0u1.2.2.2.1, t0u1.2.2.2.2.1, t0u1.2.2.2.2.2) h0u65 fun v_45 h0u66 =>
                ref02uCmp (v_44.1, v_44.2.1, v_44.2.2) (v_45.1, v_45.2.1, v_45.2.2) h0u66 fun v_46 h0u67 =>
                K0u5 (decide (v_46 > 0)) h0u67
               ) (
                K0u5 false h0u64
               )
              ) (fun t0u2 h0u63 =>
               iteB t0u2 (
                Q false h0u63
               ) (
                K0u3 (IntKind.wrap .i64 (s0u2 + 1)) h0u63
               )
              )
             )
            )
           ) (
            K0u2 (IntKind.wrap .i64 (s0u1 + 1)) h0u23
           )
          ) 0 h0u22
         ) (
          Q true h0u21
         )
        ) 0 h0u20
       )
      )
     )
    ) (list, 0) h0u1
   )
  )
def law01uspeaks (h : Heap) (Q : Bool → Heap → Prop) : Prop :=
  nat_New 2 h fun v h0 =>
  new [Value.int .u32 0, Value.int .u32 1] h0 fun a h0u1 =>
  new [Value.int .u32 0, Value.int .u32 1] h0u1 fun a_1 h0u2 =>
  nat_Bench_Mul v (⟨some a, 2, 2⟩ : Sl) (⟨some a_1, 2, 2⟩ : Sl) h0u2 fun v_3 h0u3 =>
  seq (fun (K0 : Bool → Heap → Prop) =>
   nat_Bench_Over v h0u3 fun v_4 h0u5 =>
   iteB v_4 (
    iteB (((v_3.len : Nat) : Int) == 0) (
     nat_Of 4294967296 h0u5 fun v_5 h0u6 =>
     nat_Text v_5 h0u6 fun v_6 h0u7 =>
     K0 (v_6.toList == (ByteArray.mk #[52, 50, 57, 52, 57, 54, 55, 50, 57, 54]).toList) h0u7
    ) (
     K0 false h0u5
    )
   ) (
    K0 false h0u5
   )
  ) (fun t0 h0u4 =>
   Q t0 h0u4
  )
def law01ugreat (l : Sl) (h : Heap) (Q : Bool → Heap → Prop) : Prop :=
  loop (fun (s0 : Int) h0 (K0 : Int → Heap → Prop) =>
   iteB (decide (s0 < ((l.len : Nat) : Int))) (
    idxS l s0 1 fun a =>
    Lift.load Sl.toV a h0 fun v =>
    iteB (decide (((v.len : Nat) : Int) > 12)) (
     Q true h0
    ) (
     K0 (IntKind.wrap .i64 (s0 + 1)) h0
    )
   ) (
    Q false h0
   )
  ) 0 h
def nat_Bench_Limbs (b : (Option Addr)) (h : Heap) (Q : Int → Heap → Prop) : Prop :=
  nilChk b fun a =>
  Lift.load (Value.int .i64) (a.add 0) h fun v =>
  Q v h
def law01utold (b : (Option Addr)) (limbs : Int) (x0 : Sl) (want : Sl) (h : Heap) (Q : Bool → Heap → Prop) : Prop :=
  ref01uLimbs want h fun v h0 =>
  iteB (decide (((v.len : Nat) : Int) > limbs)) (
   seq (fun (K0 : Bool → Heap → Prop) =>
    nat_Bench_Over b h0 fun v_1 h0u2 =>
    iteB v_1 (
     K0 (((x0.len : Nat) : Int) == 0) h0u2
    ) (
     K0 false h0u2
    )
   ) (fun t0 h0u1 =>
    Q t0 h0u1
   )
  ) (
   seq (fun (K0u1 : Bool → Heap → Prop) =>
    nat_Bench_Over b h0 fun v_2 h0u4 =>
    iteB (!v_2) (
     ref01uSame x0 v h0u4 fun v_3 h0u5 =>
     iteB v_3 (
      nat_Right x0 h0u5 fun v_4 h0u6 =>
      K0u1 v_4 h0u6
     ) (
      K0u1 false h0u5
     )
    ) (
     K0u1 false h0u4
    )
   ) (fun t0u1 h0u3 =>
    Q t0u1 h0u3
   )
  )
def law01uNatTold (limbs : Int) (x0 : Sl) (y : Sl) (h : Heap) (Q : Bool → Heap → Prop) : Prop :=
  law01uspeaks h fun v h0 =>
  iteB (!v) (
   Q false h0
  ) (
   new [Sl.toV x0, Sl.toV y] h0 fun a h0u1 =>
   law01ugreat (⟨some a, 2, 2⟩ : Sl) h0u1 fun v_2 h0u2 =>
   iteB v_2 (
    Q true h0u2
   ) (
    ref01uOf x0 h0u2 fun v_3 h0u3 =>
    ref01uOf y h0u3 fun v_4 h0u4 =>
    Let ((if 1 > limbs then 1 else limbs) : Int) fun n =>
    nat_New limbs h0u4 fun v_5 h0u5 =>
    seq (fun (K0 : Bool → Heap → Prop) =>
     nat_Bench_Limbs v_5 h0u5 fun v_6 h0u7 =>
     iteB (v_6 != n) (
      K0 true h0u7
     ) (
      nat_Bench_Over v_5 h0u7 fun v_7 h0u8 =>
      iteB v_7 (
       K0 true h0u8
      ) (
       nat_Bench_Add v_5 x0 y h0u8 fun v_8 h0u9 =>
       ref01uAdd v_3 v_4 h0u9 fun v_9 h0u10 =>
       law01utold v_5 n v_8 v_9 h0u10 fun v_10 h0u11 =>
       K0 (!v_10) h0u11
      )
     )
    ) (fun t0 h0u6 =>
     iteB t0 (
      Q false h0u6
     ) (
      nat_New limbs h0u6 fun v_11 h0u12 =>
      nat_Bench_Sub v_11 x0 y h0u12 fun v_12 h0u13 =>
      ref01uSub v_3 v_4 h0u13 fun v_13 h0u14 =>
      law01utold v_11 n v_12 v_13 h0u14 fun v_14 h0u15 =>
      iteB (!v_14) (
       Q false h0u15
      ) (
       nat_New limbs h0u15 fun v_15 h0u16 =>
       nat_Bench_Mul v_15 x0 y h0u16 fun v_16 h0u17 =>
       ref01uMul v_3 v_4 h0u17 fun v_17 h0u18 =>
       law01utold v_15 n v_16 v_17 h0u18 fun v_18 h0u19 =>
       iteB (!v_18) (
        Q false h0u19
       ) (
        nat_New limbs h0u19 fun v_19 h0u20 =>
        nat_Bench_Gcd v_19 x0 y h0u20 fun v_20 h0u21 =>
        ref01uGcd v_3 v_4 h0u21 fun v_21 h0u22 =>
        law01utold v_19 n v_20 v_21 h0u22 fun v_22 h0u23 =>
        iteB (!v_22) (
         Q false h0u23
        ) (
         nat_New limbs h0u23 fun v_23 h0u24 =>
         nat_Bench_Div v_23 x0 y h0u24 fun v_24 h0u25 =>
         ref01uDiv v_3 v_4 h0u25 fun v_25 h0u26 =>
         seq (fun (K0u1 : Bool → Heap → Prop) =>
          ref01uLimbs v_25.1 h0u26 fun v_26 h0u28 =>
          iteB (decide (((v_26.len : Nat) : Int) > n)) (
           K0u1 true h0u28
          ) (
           ref01uLimbs v_25.2 h0u28 fun v_27 h0u29 =>
           K0u1 (decide (((v_27.len : Nat) : Int) > n)) h0u29
          )
         ) (fun t0u1 h0u27 =>
          iteB t0u1 (
           seq (fun (K0u2 : Bool → Heap → Prop) =>
            nat_Bench_Over v_23 h0u27 fun v_28 h0u31 =>
            iteB v_28 (
             iteB (((v_24.1.len : Nat) : Int) == 0) (
              K0u2 (((v_24.2.len : Nat) : Int) == 0) h0u31
             ) (
              K0u2 false h0u31
             )
            ) (
             K0u2 false h0u31
            )
           ) (fun t0u2 h0u30 =>
            Q t0u2 h0u30
           )
          ) (
           seq (fun (K0u3 : Bool → Heap → Prop) =>
            law01utold v_23 n v_24.1 v_25.1 h0u27 fun v_29 h0u33 =>
            iteB v_29 (
             law01utold v_23 n v_24.2 v_25.2 h0u33 fun v_30 h0u34 =>
             iteB v_30 (
              nat_Cmp x0 y h0u34 fun v_31 h0u35 =>
              ref01uCmp v_3 v_4 h0u35 fun v_32 h0u36 =>
              iteB (v_31 == v_32) (
               nat_Text x0 h0u36 fun v_33 h0u37 =>
               ref01uText v_3 h0u37 fun v_34 h0u38 =>
               K0u3 (v_33.toList == v_34.toList) h0u38
              ) (
               K0u3 false h0u36
              )
             ) (
              K0u3 false h0u34
             )
            ) (
             K0u3 false h0u33
            )
           ) (fun t0u3 h0u32 =>
            Q t0u3 h0u32
           )
          )
         )
        )
       )
      )
     )
    )
   )
  )
def law01uNatRules (x0 : Sl) (y : Sl) (z : Sl) (h : Heap) (Q : Bool → Heap → Prop) : Prop :=
  law01uspeaks h fun v h0 =>
  iteB (!v) (
   Q false h0
  ) (
   new [Sl.toV x0, Sl.toV y, Sl.toV z] h0 fun a h0u1 =>
   law01ugreat (⟨some a, 3, 3⟩ : Sl) h0u1 fun v_2 h0u2 =>
   iteB v_2 (
    Q true h0u2
   ) (
    nat_New 100 h0u2 fun v_3 h0u3 =>
    seq (fun (K0 : Bool → Heap → Prop) =>
     nat_Bench_Add v_3 x0 y h0u3 fun v_4 h0u5 =>
     nat_Bench_Add v_3 y x0 h0u5 fun v_5 h0u6 =>
     ref01uSame v_4 v_5 h0u6 fun v_6 h0u7 =>
     iteB (!v_6) (
      K0 true h0u7
     ) (
      nat_Bench_Mul v_3 x0 y h0u7 fun v_7 h0u8 =>
      nat_Bench_Mul v_3 y x0 h0u8 fun v_8 h0u9 =>
      ref01uSame v_7 v_8 h0u9 fun v_9 h0u10 =>
      iteB (!v_9) (
       K0 true h0u10
      ) (
       nat_Bench_Add v_3 y z h0u10 fun v_10 h0u11 =>
       nat_Bench_Mul v_3 x0 v_10 h0u11 fun v_11 h0u12 =>
       nat_Bench_Mul v_3 x0 y h0u12 fun v_12 h0u13 =>
       nat_Bench_Mul v_3 x0 z h0u13 fun v_13 h0u14 =>
       nat_Bench_Add v_3 v_12 v_13 h0u14 fun v_14 h0u15 =>
       ref01uSame v_11 v_14 h0u15 fun v_15 h0u16 =>
       iteB (!v_15) (
        K0 true h0u16
       ) (
        nat_Bench_Add v_3 x0 y h0u16 fun v_16 h0u17 =>
        nat_Bench_Sub v_3 v_16 y h0u17 fun v_17 h0u18 =>
        nat_Bench_Add v_3 x0 Sl.nil h0u18 fun v_18 h0u19 =>
        ref01uSame v_17 v_18 h0u19 fun v_19 h0u20 =>
        K0 (!v_19) h0u20
       )
      )
     )
    ) (fun t0 h0u4 =>
     iteB t0 (
      Q false h0u4
     ) (
      ref01uOf y h0u4 fun v_20 h0u21 =>
      iteB (((v_20.len : Nat) : Int) == 0) (
       nat_Bench_Gcd v_3 x0 y h0u21 fun v_21 h0u22 =>
       nat_Bench_Add v_3 x0 Sl.nil h0u22 fun v_22 h0u23 =>
       ref01uSame v_21 v_22 h0u23 fun v_23 h0u24 =>
       Q v_23 h0u24
      ) (
       nat_Bench_Div v_3 x0 y h0u21 fun v_24 h0u25 =>
       nat_Bench_Gcd v_3 x0 y h0u25 fun v_25 h0u26 =>
       nat_Bench_Div v_3 x0 v_25 h0u26 fun v_26 h0u27 =>
       nat_Bench_Div v_3 y v_25 h0u27 fun v_27 h0u28 =>
       seq (fun (K0u1 : Bool → Heap → Prop) =>
        nat_Cmp v_24.2 y h0u28 fun v_28 h0u30 =>
        iteB (decide (v_28 < 0)) (
         nat_Bench_Mul v_3 v_24.1 y h0u30 fun v_29 h0u31 =>
         nat_Bench_Add v_3 v_29 v_24.2 h0u31 fun v_30 h0u32 =>
         nat_Bench_Add v_3 x0 Sl.nil h0u32 fun v_31 h0u33 =>
         ref01uSame v_30 v_31 h0u33 fun v_32 h0u34 =>
         iteB v_32 (
          iteB (((v_26.2.len : Nat) : Int) == 0) (
           iteB (((v_27.2.len : Nat) : Int) == 0) (
            nat_Bench_Over v_3 h0u34 fun v_33 h0u35 =>
            K0u1 (!v_33) h0u35
           ) (
            K0u1 false h0u34
           )
          ) (
           K0u1 false h0u34
          )
         ) (
          K0u1 false h0u34
         )
        ) (
         K0u1 false h0u30
        )
       ) (fun t0u1 h0u29 =>
        Q t0u1 h0u29
       )
      )
     )
    )
   )
  )
def law01uNatOver (x0 : Sl) (y : Sl) (s0 : ByteArray) (h : Heap) (Q : Bool → Heap → Prop) : Prop :=
  law01uspeaks h fun v h0 =>
  iteB (!v) (
   Q false h0
  ) (
   seq (fun (K0 : Bool → Heap → Prop) =>
    new [Sl.toV x0, Sl.toV y] h0 fun a h0u2 =>
    law01ugreat (⟨some a, 2, 2⟩ : Sl) h0u2 fun v_2 h0u3 =>
    iteB v_2 (
     K0 true h0u3
    ) (
     K0 (decide (((s0.size : Nat) : Int) > 100)) h0u3
    )
   ) (fun t0 h0u1 =>
    iteB t0 (
     Q true h0u1
    ) (
     nat_New 1 h0u1 fun v_3 h0u4 =>
     new [Value.int .u32 0, Value.int .u32 1] h0u4 fun a_1 h0u5 =>
     new [Value.int .u32 5] h0u5 fun a_2 h0u6 =>
     nat_Bench_Mul v_3 (⟨some a_1, 2, 2⟩ : Sl) (⟨some a_2, 1, 1⟩ : Sl) h0u6 fun v_6 h0u7 =>
     nat_Bench_Div v_3 x0 y h0u7 fun v_7 h0u8 =>
     nat_Bench_Parse v_3 s0 h0u8 fun v_8 h0u9 =>
     seq (fun (K0u1 : Bool → Heap → Prop) =>
      nat_Bench_Over v_3 h0u9 fun v_9 h0u11 =>
      iteB v_9 (
       nat_Bench_Add v_3 x0 y h0u11 fun v_10 h0u12 =>
       iteB (((v_10.len : Nat) : Int) == 0) (
        nat_Bench_Sub v_3 x0 y h0u12 fun v_11 h0u13 =>
        iteB (((v_11.len : Nat) : Int) == 0) (
         nat_Bench_Mul v_3 x0 y h0u13 fun v_12 h0u14 =>
         iteB (((v_12.len : Nat) : Int) == 0) (
          nat_Bench_Gcd v_3 x0 y h0u14 fun v_13 h0u15 =>
          iteB (((v_13.len : Nat) : Int) == 0) (
           iteB (((v_7.1.len : Nat) : Int) == 0) (
            iteB (((v_7.2.len : Nat) : Int) == 0) (
             iteB (((v_8.1.len : Nat) : Int) == 0) (
              iteB (!v_8.2) (
               nat_Bench_Over v_3 h0u15 fun v_14 h0u16 =>
               K0u1 v_14 h0u16
              ) (
               K0u1 false h0u15
              )
             ) (
              K0u1 false h0u15
             )
            ) (
             K0u1 false h0u15
            )
           ) (
            K0u1 false h0u15
           )
          ) (
           K0u1 false h0u15
          )
         ) (
          K0u1 false h0u14
         )
        ) (
         K0u1 false h0u13
        )
       ) (
        K0u1 false h0u12
       )
      ) (
       K0u1 false h0u11
      )
     ) (fun t0u1 h0u10 =>
      Q t0u1 h0u10
     )
    )
   )
  )
end Go.Sh

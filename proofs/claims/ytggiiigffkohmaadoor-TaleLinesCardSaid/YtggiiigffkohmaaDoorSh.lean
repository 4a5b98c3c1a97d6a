/-
  Laws that the proof of this claim's statement leans on, each proved under the conditions that it states.
-/
import Derived.Test.YtggiiigffkohmaaDoorFwD
set_option linter.unusedVariables false
set_option linter.unusedSimpArgs false
namespace Go.Sh
open Go Go.Lift
def C_i64ui64usl_i64ui64 (x : Int × Int × Sl × Int × Int) : List Value := [Value.int .i64 x.1, Value.int .i64 x.2.1, Sl.toV x.2.2.1, Value.int .i64 x.2.2.2.1, Value.int .i64 x.2.2.2.2]
def tale_join (words : Sl) (h : Heap) (Q : ByteArray → Heap → Prop) : Prop :=
  strings_Join words (ByteArray.mk #[32]) h fun v h0 =>
  Q v h0
def tale_flags (l : Sl) (h : Heap) (Q : ByteArray → Heap → Prop) : Prop :=
  iteB (((l.len : Nat) : Int) == 0) (
   Q (ByteArray.mk #[45]) h
  ) (
   newM h fun v h0 =>
   setMB Value.string v true (ByteArray.mk #[49]) h0 fun h0u1 =>
   setMB Value.string v false (ByteArray.mk #[48]) h0u1 fun h0u2 =>
   newT 46 [Value.pointer none, Sl.toV Sl.nil] h0u2 fun out h0u3 =>
   loop (fun (s0 : Int) h0u4 (K0 : Int → Heap → Prop) =>
    iteB (decide (s0 < ((l.len : Nat) : Int))) (
     idxS l s0 1 fun a =>
     Lift.load Value.bool a h0u4 fun v_1 =>
     lookMB Value.string (ByteArray.mk #[]) v v_1 h0u4 fun v_2 =>
     bldW 46 5 h.size (some out) v_2.1 h0u4 fun h0u5 =>
     K0 (IntKind.wrap .i64 (s0 + 1)) h0u5
    ) (
     bldS 46 5 h.size (some out) h0u4 fun v_4 h0u6 =>
     Q v_4 h0u6
    )
   ) 0 h0u3
  )
def tale_Line (e : Int × Int × Sl × Int × Int) (h : Heap) (Q : ByteArray → Heap → Prop) : Prop :=
  mem h fun h0 =>
  iteB (e.1 == 1) (
   strconv_Itoa e.2.1 h0 fun v h0u1 =>
   new [Value.string (ByteArray.mk #[115, 116, 101, 112, 115]), Value.string v] h0u1 fun a h0u2 =>
   tale_join (⟨some a, 2, 2⟩ : Sl) h0u2 fun v_2 h0u3 =>
   Q v_2 h0u3
  ) (
   iteB (e.1 == 2) (
    strconv_Itoa e.2.1 h0 fun v_3 h0u4 =>
    new [Value.string (ByteArray.mk #[115, 116, 111, 112]), Value.string v_3] h0u4 fun a_1 h0u5 =>
    tale_join (⟨some a_1, 2, 2⟩ : Sl) h0u5 fun v_5 h0u6 =>
    Q v_5 h0u6
   ) (
    iteB (e.1 == 3) (
     tale_flags e.2.2.1 h0 fun v_6 h0u7 =>
     strconv_Itoa e.2.2.2.1 h0u7 fun v_7 h0u8 =>
     strconv_Itoa e.2.2.2.2 h0u8 fun v_8 h0u9 =>
     new [Value.string (ByteArray.mk #[99, 114, 97, 115, 104]), Value.string v_6, Value.string v_7, Value.string v_8] h0u9 fun a_2 h0u10 =>
     tale_join (⟨some a_2, 4, 4⟩ : Sl) h0u10 fun v_10 h0u11 =>
     Q v_10 h0u11
    ) (
     Q (ByteArray.mk #[63]) h0
    )
   )
  )
def law24uspeaks (h : Heap) (Q : Bool → Heap → Prop) : Prop :=
  tale_Line (1, 3, Sl.nil, 0, 0) h fun v h0 =>
  Q (v.toList == (ByteArray.mk #[115, 116, 101, 112, 115, 32, 51]).toList) h0
def tale_number (s0 : ByteArray) (h : Heap) (Q : Int → Heap → Prop) : Prop :=
  strconv_Atoi s0 h fun v h0 =>
  Q v.1 h0
def tale_truths (s0 : ByteArray) (h : Heap) (Q : Sl → Heap → Prop) : Prop :=
  loop (fun (s0u1 : Sl × Int) h0 (K0 : (Sl × Int) → Heap → Prop) =>
   seq (fun (K0u1 : Bool → Heap → Prop) =>
    iteB (!(s0.toList == (ByteArray.mk #[45]).toList)) (
     K0u1 (decide (s0u1.2 < ((s0.size : Nat) : Int))) h0
    ) (
     K0u1 false h0
    )
   ) (fun t0 h0u1 =>
    iteB t0 (
     idxStr s0 s0u1.2 fun v =>
     new [Value.bool (v == 49)] h0u1 fun a h0u2 =>
     appendS 1 1 s0u1.1 (⟨some a, 1, 1⟩ : Sl) h0u2 fun v_2 h0u3 =>
     Let (IntKind.wrap .i64 (s0u1.2 + 1) : Int) fun i =>
     K0 (v_2, i) h0u3
    ) (
     Q s0u1.1 h0u1
    )
   )
  ) (Sl.nil, 0) h
def tale_Read (s0 : ByteArray) (h : Heap) (Q : ((Int × Int × Sl × Int × Int) × Int) → Heap → Prop) : Prop :=
  mem h fun h0 =>
  strings_Split s0 (ByteArray.mk #[32]) h0 fun v h0u1 =>
  mem h0u1 fun h0u2 =>
  seq (fun (K0 : (Int × Int × Sl × Int × Int) → Heap → Prop) =>
   seq (fun (K0u1 : Bool → Heap → Prop) =>
    idxS v 0 1 fun a =>
    Lift.load Value.string a h0u2 fun v_1 =>
    iteB (v_1.toList == (ByteArray.mk #[115, 116, 101, 112, 115]).toList) (
     K0u1 (((v.len : Nat) : Int) == 2) h0u2
    ) (
     K0u1 false h0u2
    )
   ) (fun t0u1 h0u4 =>
    iteB t0u1 (
     idxS v 1 1 fun a_1 =>
     Lift.load Value.string a_1 h0u4 fun v_2 =>
     tale_number v_2 h0u4 fun v_3 h0u5 =>
     K0 (1, v_3, Sl.nil, 0, 0) h0u5
    ) (
     seq (fun (K0u2 : Bool → Heap → Prop) =>
      idxS v 0 1 fun a_2 =>
      Lift.load Value.string a_2 h0u4 fun v_4 =>
      iteB (v_4.toList == (ByteArray.mk #[115, 116, 111, 112]).toList) (
       K0u2 (((v.len : Nat) : Int) == 2) h0u4
      ) (
       K0u2 false h0u4
      )
     ) (fun t0u2 h0u6 =>
      iteB t0u2 (
       idxS v 1 1 fun a_3 =>
       Lift.load Value.string a_3 h0u6 fun v_5 =>
       tale_number v_5 h0u6 fun v_6 h0u7 =>
       K0 (2, v_6, Sl.nil, 0, 0) h0u7
      ) (
       seq (fun (K0u3 : Bool → Heap → Prop) =>
        idxS v 0 1 fun a_4 =>
        Lift.load Value.string a_4 h0u6 fun v_7 =>
        iteB (v_7.toList == (ByteArray.mk #[99, 114, 97, 115, 104]).toList) (
         K0u3 (((v.len : Nat) : Int) == 4) h0u6
        ) (
         K0u3 false h0u6
        )
       ) (fun t0u3 h0u8 =>
        iteB t0u3 (
         idxS v 1 1 fun a_5 =>
         Lift.load Value.string a_5 h0u8 fun v_8 =>
         idxS v 2 1 fun a_6 =>
         Lift.load Value.string a_6 h0u8 fun v_9 =>
         idxS v 3 1 fun a_7 =>
         Lift.load Value.string a_7 h0u8 fun v_10 =>
         tale_truths v_8 h0u8 fun v_11 h0u9 =>
         (cell? h0u9 a_6 = some (Value.string v_9)) ∧
         (cell? h0u9 a_7 = some (Value.string v_10)) ∧
         tale_number v_9 h0u9 fun v_12 h0u10 =>
         (cell? h0u10 a_7 = some (Value.string v_10)) ∧
         tale_number v_10 h0u10 fun v_13 h0u11 =>
         K0 (3, 0, v_11, v_12, v_13) h0u11
        ) (
         K0 (0, 0, Sl.nil, 0, 0) h0u8
        )
       )
      )
     )
    )
   )
  ) (fun t0 h0u3 =>
   seq (fun (K0u4 : Bool → Heap → Prop) =>
    iteB (t0.1 == 0) (
     K0u4 true h0u3
    ) (
     tale_Line (t0.1, t0.2.1, t0.2.2.1, t0.2.2.2.1, t0.2.2.2.2) h0u3 fun v_14 h0u13 =>
     K0u4 (!(v_14.toList == s0.toList)) h0u13
    )
   ) (fun t0u4 h0u12 =>
    iteB t0u4 (
     Q ((0, 0, Sl.nil, 0, 0), 3) h0u12
    ) (
     Q ((t0.1, t0.2.1, t0.2.2.1, t0.2.2.2.1, t0.2.2.2.2), 0) h0u12
    )
   )
  )
def ref24uSame (a : Int × Int × Sl × Int × Int) (b : Int × Int × Sl × Int × Int) (h : Heap) (Q : Bool → Heap → Prop) : Prop :=
  mem h fun h0 =>
  seq (fun (K0 : Bool → Heap → Prop) =>
   iteB (a.1 != b.1) (
    K0 true h0
   ) (
    iteB (a.2.1 != b.2.1) (
     K0 true h0
    ) (
     iteB (a.2.2.2.1 != b.2.2.2.1) (
      K0 true h0
     ) (
      iteB (a.2.2.2.2 != b.2.2.2.2) (
       K0 true h0
      ) (
       K0 (((a.2.2.1.len : Nat) : Int) != ((b.2.2.1.len : Nat) : Int)) h0
      )
     )
    )
   )
  ) (fun t0 h0u1 =>
   iteB t0 (
    Q false h0u1
   ) (
    loop (fun (s0 : Int) h0u2 (K0u1 : Int → Heap → Prop) =>
     iteB (decide (s0 < ((a.2.2.1.len : Nat) : Int))) (
      idxS a.2.2.1 s0 1 fun a_1 =>
      Lift.load Value.bool a_1 h0u2 fun v =>
      idxS b.2.2.1 s0 1 fun a_2 =>
      Lift.load Value.bool a_2 h0u2 fun v_1 =>
      iteB (!(v == v_1)) (
       Q false h0u2
      ) (
       Let (IntKind.wrap .i64 (s0 + 1) : Int) fun i =>
       K0u1 i h0u2
      )
     ) (
      Q true h0u2
     )
    ) 0 h0u1
   )
  )
def ref24uInt (n : Int) (h : Heap) (Q : ByteArray → Heap → Prop) : Prop :=
  Let (IntKind.wrap .u64 n : Int) fun m0 =>
  seq (fun (K0 : Int → Heap → Prop) =>
   iteB (decide (n < 0)) (
    Let (IntKind.wrap .u64 ((IntKind.wrap .u64 (IntKind.wrap .i64 (0 - (IntKind.wrap .i64 (n + 1))))) + 1) : Int) fun m0u1 =>
    K0 m0u1 h
   ) (
    K0 m0 h
   )
  ) (fun t0 h0 =>
   Let ((ByteArray.mk #[]) : ByteArray) fun s0 =>
   loop (fun (s0u1 : Int × ByteArray × Int) h0u1 (K0u1 : (Int × ByteArray × Int) → Heap → Prop) =>
    seq (fun (K0u2 : Bool → Heap → Prop) =>
     iteB (decide (s0u1.2.2 < 20)) (
      iteB (decide (s0u1.1 > 0)) (
       K0u2 true h0u1
      ) (
       K0u2 (s0u1.2.2 == 0) h0u1
      )
     ) (
      K0u2 false h0u1
     )
    ) (fun t0u1 h0u2 =>
     iteB t0u1 (
      sliceStr (ByteArray.mk #[48, 49, 50, 51, 52, 53, 54, 55, 56, 57]) (some (Int.tmod s0u1.1 10)) (some (IntKind.wrap .u64 ((Int.tmod s0u1.1 10) + 1))) fun v =>
      ((v.size + s0u1.2.1.size : Nat) : Int) ≤ 9223372036854775807 ∧
      Let ((v ++ s0u1.2.1) : ByteArray) fun s0u2 =>
      Let (IntKind.wrap .u64 (Int.tdiv s0u1.1 10) : Int) fun m0u2 =>
      Let (IntKind.wrap .i64 (s0u1.2.2 + 1) : Int) fun i =>
      K0u1 (m0u2, s0u2, i) h0u2
     ) (
      iteB (decide (n < 0)) (
       (((ByteArray.mk #[45]).size + s0u1.2.1.size : Nat) : Int) ≤ 9223372036854775807 ∧
       Q ((ByteArray.mk #[45]) ++ s0u1.2.1) h0u2
      ) (
       Q s0u1.2.1 h0u2
      )
     )
    )
   ) (t0, s0, 0) h0
  )
def ref24uLine (e : Int × Int × Sl × Int × Int) (h : Heap) (Q : ByteArray → Heap → Prop) : Prop :=
  mem h fun h0 =>
  iteB (e.1 == 1) (
   ref24uInt e.2.1 h0 fun v h0u1 =>
   (((ByteArray.mk #[115, 116, 101, 112, 115, 32]).size + v.size : Nat) : Int) ≤ 9223372036854775807 ∧
   Q ((ByteArray.mk #[115, 116, 101, 112, 115, 32]) ++ v) h0u1
  ) (
   iteB (e.1 == 2) (
    ref24uInt e.2.1 h0 fun v_1 h0u2 =>
    (((ByteArray.mk #[115, 116, 111, 112, 32]).size + v_1.size : Nat) : Int) ≤ 9223372036854775807 ∧
    Q ((ByteArray.mk #[115, 116, 111, 112, 32]) ++ v_1) h0u2
   ) (
    iteB (e.1 != 3) (
     Q (ByteArray.mk #[63]) h0
    ) (
     Let ((ByteArray.mk #[]) : ByteArray) fun s0 =>
     loop (fun (s0u1 : ByteArray × Int) h0u3 (K0 : (ByteArray × Int) → Heap → Prop) =>
      iteB (decide (s0u1.2 < ((e.2.2.1.len : Nat) : Int))) (
       seq (fun (K0u1 : ByteArray → Heap → Prop) =>
        idxS e.2.2.1 s0u1.2 1 fun a =>
        Lift.load Value.bool a h0u3 fun v_2 =>
        iteB v_2 (
         ((s0u1.1.size + (ByteArray.mk #[49]).size : Nat) : Int) ≤ 9223372036854775807 ∧
         Let ((s0u1.1 ++ (ByteArray.mk #[49])) : ByteArray) fun s0u2 =>
         K0u1 s0u2 h0u3
        ) (
         ((s0u1.1.size + (ByteArray.mk #[48]).size : Nat) : Int) ≤ 9223372036854775807 ∧
         Let ((s0u1.1 ++ (ByteArray.mk #[48])) : ByteArray) fun s0u3 =>
         K0u1 s0u3 h0u3
        )
       ) (fun t0 h0u4 =>
        Let (IntKind.wrap .i64 (s0u1.2 + 1) : Int) fun i =>
        K0 (t0, i) h0u4
       )
      ) (
       seq (fun (K0u2 : ByteArray → Heap → Prop) =>
        iteB (s0u1.1.toList == (ByteArray.mk #[]).toList) (
         Let ((ByteArray.mk #[45]) : ByteArray) fun s0u4 =>
         K0u2 s0u4 h0u3
        ) (
         K0u2 s0u1.1 h0u3
        )
       ) (fun t0u1 h0u5 =>
        (((ByteArray.mk #[99, 114, 97, 115, 104, 32]).size + t0u1.size : Nat) : Int) ≤ 9223372036854775807 ∧
        ((((ByteArray.mk #[99, 114, 97, 115, 104, 32]) ++ t0u1).size + (ByteArray.mk #[32]).size : Nat) : Int) ≤ 9223372036854775807 ∧
        ref24uInt e.2.2.2.1 h0u5 fun v_3 h0u6 =>
        (((((ByteArray.mk #[99, 114, 97, 115, 104, 32]) ++ t0u1) ++ (ByteArray.mk #[32])).size + v_3.size : Nat) : Int) ≤ 9223372036854775807 ∧
        ((((((ByteArray.mk #[99, 114, 97, 115, 104, 32]) ++ t0u1) ++ (ByteArray.mk #[32])) ++ v_3).size + (ByteArray.mk #[32]).size : Nat) : Int) ≤ 9223372036854775807 ∧
        ref24uInt e.2.2.2.2 h0u6 fun v_4 h0u7 =>
        (((((((ByteArray.mk #[99, 114, 97, 115, 104, 32]) ++ t0u1) ++ (ByteArray.mk #[32])) ++ v_3) ++ (ByteArray.mk #[32])).size + v_4.size : Nat) : Int) ≤ 9223372036854775807 ∧
        Q ((((((ByteArray.mk #[99, 114, 97, 115, 104, 32]) ++ t0u1) ++ (ByteArray.mk #[32])) ++ v_3) ++ (ByteArray.mk #[32])) ++ v_4) h0u7
       )
      )
     ) (s0, 0) h0
    )
   )
  )
def ref24uTold (e : Int × Int × Sl × Int × Int) (h : Heap) (Q : (Int × Int × Sl × Int × Int) → Heap → Prop) : Prop :=
  mem h fun h0 =>
  iteB (e.1 == 3) (
   Q (e.1, 0, e.2.2.1, e.2.2.2.1, e.2.2.2.2) h0
  ) (
   Q (e.1, e.2.1, Sl.nil, 0, 0) h0
  )
def law24uTaleReads (s0 : ByteArray) (h : Heap) (Q : Bool → Heap → Prop) : Prop :=
  law24uspeaks h fun v h0 =>
  iteB (!v) (
   Q false h0
  ) (
   iteB (decide (((s0.size : Nat) : Int) > 1000)) (
    Q true h0
   ) (
    tale_Read s0 h0 fun v_1 h0u1 =>
    mem h0u1 fun h0u2 =>
    iteB (v_1.2 != 0) (
     seq (fun (K0 : Bool → Heap → Prop) =>
      iteB (v_1.2 == 3) (
       ref24uSame (v_1.1.1, v_1.1.2.1, v_1.1.2.2.1, v_1.1.2.2.2.1, v_1.1.2.2.2.2) (0, 0, Sl.nil, 0, 0) h0u2 fun v_2 h0u4 =>
       K0 v_2 h0u4
      ) (
       K0 false h0u2
      )
     ) (fun t0 h0u3 =>
      Q t0 h0u3
     )
    ) (
     seq (fun (K0u1 : Bool → Heap → Prop) =>
      iteB (!(s0.toList == (ByteArray.mk #[63]).toList)) (
       ref24uLine (v_1.1.1, v_1.1.2.1, v_1.1.2.2.1, v_1.1.2.2.2.1, v_1.1.2.2.2.2) h0u2 fun v_3 h0u6 =>
       iteB (v_3.toList == s0.toList) (
        ref24uTold (v_1.1.1, v_1.1.2.1, v_1.1.2.2.1, v_1.1.2.2.2.1, v_1.1.2.2.2.2) h0u6 fun v_4 h0u7 =>
        ref24uSame (v_1.1.1, v_1.1.2.1, v_1.1.2.2.1, v_1.1.2.2.2.1, v_1.1.2.2.2.2) (v_4.1, v_4.2.1, v_4.2.2.1, v_4.2.2.2.1, v_4.2.2.2.2) h0u7 fun v_5 h0u8 =>
        K0u1 v_5 h0u8
       ) (
        K0u1 false h0u6
       )
      ) (
       K0u1 false h0u2
      )
     ) (fun t0u1 h0u5 =>
      Q t0u1 h0u5
     )
    )
   )
  )
def law24uTaleLines (e : Int × Int × Sl × Int × Int) (h : Heap) (Q : Bool → Heap → Prop) : Prop :=
  mem h fun h0 =>
  law24uspeaks h0 fun v h0u1 =>
  iteB (!v) (
   Q false h0u1
  ) (
   iteB (decide (((e.2.2.1.len : Nat) : Int) > 500)) (
    Q true h0u1
   ) (
    tale_Line (e.1, e.2.1, e.2.2.1, e.2.2.2.1, e.2.2.2.2) h0u1 fun v_1 h0u2 =>
    tale_Read v_1 h0u2 fun v_2 h0u3 =>
    mem h0u3 fun h0u4 =>
    ref24uLine (e.1, e.2.1, e.2.2.1, e.2.2.2.1, e.2.2.2.2) h0u4 fun v_3 h0u5 =>
    iteB (!(v_1.toList == v_3.toList)) (
     Q false h0u5
    ) (
     iteB (v_1.toList == (ByteArray.mk #[63]).toList) (
      seq (fun (K0 : Bool → Heap → Prop) =>
       iteB (v_2.2 == 3) (
        ref24uSame (v_2.1.1, v_2.1.2.1, v_2.1.2.2.1, v_2.1.2.2.2.1, v_2.1.2.2.2.2) (0, 0, Sl.nil, 0, 0) h0u5 fun v_4 h0u7 =>
        K0 v_4 h0u7
       ) (
        K0 false h0u5
       )
      ) (fun t0 h0u6 =>
       Q t0 h0u6
      )
     ) (
      seq (fun (K0u1 : Bool → Heap → Prop) =>
       iteB (v_2.2 == 0) (
        ref24uTold (e.1, e.2.1, e.2.2.1, e.2.2.2.1, e.2.2.2.2) h0u5 fun v_5 h0u9 =>
        ref24uSame (v_2.1.1, v_2.1.2.1, v_2.1.2.2.1, v_2.1.2.2.2.1, v_2.1.2.2.2.2) (v_5.1, v_5.2.1, v_5.2.2.1, v_5.2.2.2.1, v_5.2.2.2.2) h0u9 fun v_6 h0u10 =>
        K0u1 v_6 h0u10
       ) (
        K0u1 false h0u5
       )
      ) (fun t0u1 h0u8 =>
       Q t0u1 h0u8
      )
     )
    )
   )
  )
end Go.Sh

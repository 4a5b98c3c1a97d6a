/-
  The functions, as they are seen: printed by lift.py.
-/
import Derived.Test.YtenofghlgiimeaaGreatDoorFwC
set_option linter.unusedVariables false
set_option linter.unusedSimpArgs false
namespace Go.Sh
open Go Go.Lift

def C_bool_sl_sl_bool_sl_sl (x : Bool × Sl × Sl × Bool × Sl × Sl) : List Value := [Value.bool x.1, Sl.toV x.2.1, Sl.toV x.2.2.1, Value.bool x.2.2.2.1, Sl.toV x.2.2.2.2.1, Sl.toV x.2.2.2.2.2]
def C_bool_sl_sl_sl (x : Bool × Sl × Sl × Sl) : List Value := [Value.bool x.1, Sl.toV x.2.1, Sl.toV x.2.2.1, Sl.toV x.2.2.2]
def C_i64ubool_sl_sl (x : Int × Bool × Sl × Sl) : List Value := [Value.int .i64 x.1, Value.bool x.2.1, Sl.toV x.2.2.1, Sl.toV x.2.2.2]
def C_i64ui64 (x : Int × Int) : List Value := [Value.int .i64 x.1, Value.int .i64 x.2]
def C_i64ui64ui64ubool_sl_sl_bool_sl_sl (x : Int × Int × Int × Bool × Sl × Sl × Bool × Sl × Sl) : List Value := [Value.int .i64 x.1, Value.int .i64 x.2.1, Value.int .i64 x.2.2.1, Value.bool x.2.2.2.1, Sl.toV x.2.2.2.2.1, Sl.toV x.2.2.2.2.2.1, Value.bool x.2.2.2.2.2.2.1, Sl.toV x.2.2.2.2.2.2.2.1, Sl.toV x.2.2.2.2.2.2.2.2]
def C_i64ui64usl_sl_sl_sl_sl (x : Int × Int × Sl × Sl × Sl × Sl × Sl) : List Value := [Value.int .i64 x.1, Value.int .i64 x.2.1, Sl.toV x.2.2.1, Sl.toV x.2.2.2.1, Sl.toV x.2.2.2.2.1, Sl.toV x.2.2.2.2.2.1, Sl.toV x.2.2.2.2.2.2]
def C_i64ui64usl_sl_sl_sl_sl_i64ui64usl_sl_sl_sl_sl_sl_sl_i64usl_sl_sl_sl_sl_sl_sl_sl_i64usl_i64ui64ui64ui64ui64ui64 (x : Int × Int × Sl × Sl × Sl × Sl × Sl × Int × Int × Sl × Sl × Sl × Sl × Sl × Sl × Sl × Int × Sl × Sl × Sl × Sl × Sl × Sl × Sl × Sl × Int × Sl × Int × Int × Int × Int × Int × Int) : List Value := [Value.int .i64 x.1, Value.int .i64 x.2.1, Sl.toV x.2.2.1, Sl.toV x.2.2.2.1, Sl.toV x.2.2.2.2.1, Sl.toV x.2.2.2.2.2.1, Sl.toV x.2.2.2.2.2.2.1, Value.int .i64 x.2.2.2.2.2.2.2.1, Value.int .i64 x.2.2.2.2.2.2.2.2.1, Sl.toV x.2.2.2.2.2.2.2.2.2.1, Sl.toV x.2.2.2.2.2.2.2.2.2.2.1, Sl.toV x.2.2.2.2.2.2.2.2.2.2.2.1, Sl.toV x.2.2.2.2.2.2.2.2.2.2.2.2.1, Sl.toV x.2.2.2.2.2.2.2.2.2.2.2.2.2.1, Sl.toV x.2.2.2.2.2.2.2.2.2.2.2.2.2.2.1, Sl.toV x.2.2.2.2.2.2.2.2.2.2.2.2.2.2.2.1, Value.int .i64 x.2.2.2.2.2.2.2.2.2.2.2.2.2.2.2.2.1, Sl.toV x.2.2.2.2.2.2.2.2.2.2.2.2.2.2.2.2.2.1, Sl.toV x.2.2.2.2.2.2.2.2.2.2.2.2.2.2.2.2.2.2.1, Sl.toV x.2.2.2.2.2.2.2.2.2.2.2.2.2.2.2.2.2.2.2.1, Sl.toV x.2.2.2.2.2.2.2.2.2.2.2.2.2.2.2.2.2.2.2.2.1, Sl.toV x.2.2.2.2.2.2.2.2.2.2.2.2.2.2.2.2.2.2.2.2.2.1, Sl.toV x.2.2.2.2.2.2.2.2.2.2.2.2.2.2.2.2.2.2.2.2.2.2.1, Sl.toV x.2.2.2.2.2.2.2.2.2.2.2.2.2.2.2.2.2.2.2.2.2.2.2.1, Sl.toV x.2.2.2.2.2.2.2.2.2.2.2.2.2.2.2.2.2.2.2.2.2.2.2.2.1, Value.int .i64 x.2.2.2.2.2.2.2.2.2.2.2.2.2.2.2.2.2.2.2.2.2.2.2.2.2.1, Sl.toV x.2.2.2.2.2.2.2.2.2.2.2.2.2.2.2.2.2.2.2.2.2.2.2.2.2.2.1, Value.int .i64 x.2.2.2.2.2.2.2.2.2.2.2.2.2.2.2.2.2.2.2.2.2.2.2.2.2.2.2.1, Value.int .i64 x.2.2.2.2.2.2.2.2.2.2.2.2.2.2.2.2.2.2.2.2.2.2.2.2.2.2.2.2.1, Value.int .i64 x.2.2.2.2.2.2.2.2.2.2.2.2.2.2.2.2.2.2.2.2.2.2.2.2.2.2.2.2.2.1, Value.int .i64 x.2.2.2.2.2.2.2.2.2.2.2.2.2.2.2.2.2.2.2.2.2.2.2.2.2.2.2.2.2.2.1, Value.int .i64 x.2.2.2.2.2.2.2.2.2.2.2.2.2.2.2.2.2.2.2.2.2.2.2.2.2.2.2.2.2.2.2.1, Value.int .i64 x.2.2.2.2.2.2.2.2.2.2.2.2.2.2.2.2.2.2.2.2.2.2.2.2.2.2.2.2.2.2.2.2]
def C_sl_sl (x : Sl × Sl) : List Value := [Sl.toV x.1, Sl.toV x.2]
def C_sl_sl_sl_sl_sl (x : Sl × Sl × Sl × Sl × Sl) : List Value := [Sl.toV x.1, Sl.toV x.2.1, Sl.toV x.2.2.1, Sl.toV x.2.2.2.1, Sl.toV x.2.2.2.2]
def C_sl_sl_sl_sl_sl_sl_sl_i64 (x : Sl × Sl × Sl × Sl × Sl × Sl × Sl × Int) : List Value := [Sl.toV x.1, Sl.toV x.2.1, Sl.toV x.2.2.1, Sl.toV x.2.2.2.1, Sl.toV x.2.2.2.2.1, Sl.toV x.2.2.2.2.2.1, Sl.toV x.2.2.2.2.2.2.1, Value.int .i64 x.2.2.2.2.2.2.2]

def slices_IndexFunc_int_int__cnf_Right_c2 (s0 : Sl) (f_c : Addr) (h : Heap) (Q : Int → Heap → Prop) : Prop :=
  loop (fun (s0u1 : Int) h0 (K0 : Int → Heap → Prop) =>
   iteB (decide (s0u1 < ((s0.len : Nat) : Int))) (
    idxS s0 s0u1 1 fun a =>
    Lift.load Sl.toV a h0 fun v =>
    False
   ) (
    Q (-1) h0
   )
  ) 0 h

def slices_ContainsFunc_int_int__cnf_Right_c2 (s0 : Sl) (f_c : Addr) (h : Heap) (Q : Bool → Heap → Prop) : Prop :=
  slices_IndexFunc_int_int__cnf_Right_c2 s0 f_c h fun v h0 =>
  Q (decide (v ≥ 0)) h0

def cnf_rowed (p : Int × Int × Sl × Sl × Sl × Sl × Sl) (h : Heap) (Q : FnV → Heap → Prop) : Prop :=
  new [Value.int .i64 p.1, Value.int .i64 p.2.1, Sl.toV p.2.2.1, Sl.toV p.2.2.2.1, Sl.toV p.2.2.2.2.1, Sl.toV p.2.2.2.2.2.1, Sl.toV p.2.2.2.2.2.2] h fun p_1 h0 =>
  Q (FnV.mk 53 [] [Value.pointer (some p_1)]) h0

def cnf_atomic (p : Int × Int × Sl × Sl × Sl × Sl × Sl) (h : Heap) (Q : FnV → Heap → Prop) : Prop :=
  new [Value.int .i64 p.1, Value.int .i64 p.2.1, Sl.toV p.2.2.1, Sl.toV p.2.2.2.1, Sl.toV p.2.2.2.2.1, Sl.toV p.2.2.2.2.2.1, Sl.toV p.2.2.2.2.2.2] h fun p_1 h0 =>
  newM h0 fun v h0u1 =>
  new [Value.map none] h0u1 fun seen h0u2 =>
  Lift.store seen (Value.map v) h0u2 fun h0u3 =>
  Q (FnV.mk 56 [] [Value.pointer (some p_1), Value.pointer (some seen)]) h0u3

def slices_IndexFunc_api_Poly_api_Poly__cnf_Right_c3 (s0 : Sl) (f_c : Addr) (h : Heap) (Q : Int → Heap → Prop) : Prop :=
  loop (fun (s0u1 : Int) h0 (K0 : Int → Heap → Prop) =>
   iteB (decide (s0u1 < ((s0.len : Nat) : Int))) (
    idxS s0 s0u1 4 fun a =>
    loadS C_bool_sl_sl_sl 4 a h0 fun v =>
    False
   ) (
    Q (-1) h0
   )
  ) 0 h

def slices_ContainsFunc_api_Poly_api_Poly__cnf_Right_c3 (s0 : Sl) (f_c : Addr) (h : Heap) (Q : Bool → Heap → Prop) : Prop :=
  slices_IndexFunc_api_Poly_api_Poly__cnf_Right_c3 s0 f_c h fun v h0 =>
  Q (decide (v ≥ 0)) h0

def slices_IndexFunc_api_Atom_api_Atom__cnf_Right_c4 (s0 : Sl) (f_c : Addr) (h : Heap) (Q : Int → Heap → Prop) : Prop :=
  loop (fun (s0u1 : Int) h0 (K0 : Int → Heap → Prop) =>
   iteB (decide (s0u1 < ((s0.len : Nat) : Int))) (
    idxS s0 s0u1 9 fun a =>
    loadS C_i64ui64ui64ubool_sl_sl_bool_sl_sl 9 a h0 fun v =>
    False
   ) (
    Q (-1) h0
   )
  ) 0 h

def slices_ContainsFunc_api_Atom_api_Atom__cnf_Right_c4 (s0 : Sl) (f_c : Addr) (h : Heap) (Q : Bool → Heap → Prop) : Prop :=
  slices_IndexFunc_api_Atom_api_Atom__cnf_Right_c4 s0 f_c h fun v h0 =>
  Q (decide (v ≥ 0)) h0

def cnf_Right (p : Int × Int × Sl × Sl × Sl × Sl × Sl) (h : Heap) (Q : Bool → Heap → Prop) : Prop :=
  new [Value.int .i64 p.1, Value.int .i64 p.2.1, Sl.toV p.2.2.1, Sl.toV p.2.2.2.1, Sl.toV p.2.2.2.2.1, Sl.toV p.2.2.2.2.2.1, Sl.toV p.2.2.2.2.2.2] h fun p_1 h0 =>
  new [Value.nilFunc] h0 fun lost h0u1 =>
  Lift.store lost (FnV.toV (FnV.mk 24 [] [Value.pointer (some p_1)])) h0u1 fun h0u2 =>
  seq (fun (K0 : Bool → Heap → Prop) =>
   Lift.load (Value.int .i64) (p_1.add 0) h0u2 fun v =>
   iteB (decide (v < 0)) (
    K0 true h0u2
   ) (
    Lift.load (Value.int .i64) (p_1.add 1) h0u2 fun v_1 =>
    iteB (decide (v_1 < 0)) (
     K0 true h0u2
    ) (
     Lift.load Sl.toV (p_1.add 4) h0u2 fun v_2 =>
     slices_ContainsFunc_int_int__cnf_Right_c2 v_2 lost h0u2 fun v_3 h0u4 =>
     K0 v_3 h0u4
    )
   )
  ) (fun t0 h0u3 =>
   iteB t0 (
    Q false h0u3
   ) (
    seq (fun (K0u1 : (Addr × Addr) → Heap → Prop) =>
     loadS C_i64ui64usl_sl_sl_sl_sl 7 p_1 h0u3 fun v_4 =>
     loadS C_i64ui64usl_sl_sl_sl_sl 7 p_1 h0u3 fun v_5 =>
     (
      cnf_rowed (v_4.1, v_4.2.1, v_4.2.2.1, v_4.2.2.2.1, v_4.2.2.2.2.1, v_4.2.2.2.2.2.1, v_4.2.2.2.2.2.2) h0u3 fun v_6 h0u6 =>
      (cells? h0u6 p_1 7 0 = some [Value.int .i64 v_5.1, Value.int .i64 v_5.2.1, Sl.toV v_5.2.2.1, Sl.toV v_5.2.2.2.1, Sl.toV v_5.2.2.2.2.1, Sl.toV v_5.2.2.2.2.2.1, Sl.toV v_5.2.2.2.2.2.2]) ∧
      (
       cnf_atomic (v_5.1, v_5.2.1, v_5.2.2.1, v_5.2.2.2.1, v_5.2.2.2.2.1, v_5.2.2.2.2.2.1, v_5.2.2.2.2.2.2) h0u6 fun v_7 h0u7 =>
       (
        new [Value.nilFunc] h0u7 fun row h0u8 =>
        new [Value.nilFunc] h0u8 fun atom h0u9 =>
        Lift.store row (FnV.toV v_6) h0u9 fun h0u10 =>
        Lift.store atom (FnV.toV v_7) h0u10 fun h0u11 =>
        K0u1 (row, atom) h0u11
       ) ∧ (
        new [Value.nilFunc] h0u7 fun atom_1 h0u12 =>
        new [Value.nilFunc] h0u12 fun row_1 h0u13 =>
        Lift.store row_1 (FnV.toV v_6) h0u13 fun h0u14 =>
        Lift.store atom_1 (FnV.toV v_7) h0u14 fun h0u15 =>
        K0u1 (row_1, atom_1) h0u15
       )
      ) ∧ (
       new [Value.nilFunc] h0u6 fun row_2 h0u16 =>
       (cells? h0u16 p_1 7 0 = some [Value.int .i64 v_5.1, Value.int .i64 v_5.2.1, Sl.toV v_5.2.2.1, Sl.toV v_5.2.2.2.1, Sl.toV v_5.2.2.2.2.1, Sl.toV v_5.2.2.2.2.2.1, Sl.toV v_5.2.2.2.2.2.2]) ∧
       (
        cnf_atomic (v_5.1, v_5.2.1, v_5.2.2.1, v_5.2.2.2.1, v_5.2.2.2.2.1, v_5.2.2.2.2.2.1, v_5.2.2.2.2.2.2) h0u16 fun v_8 h0u17 =>
        new [Value.nilFunc] h0u17 fun atom_2 h0u18 =>
        Lift.store row_2 (FnV.toV v_6) h0u18 fun h0u19 =>
        Lift.store atom_2 (FnV.toV v_8) h0u19 fun h0u20 =>
        K0u1 (row_2, atom_2) h0u20
       ) ∧ (
        new [Value.nilFunc] h0u16 fun atom_3 h0u21 =>
        (cells? h0u21 p_1 7 0 = some [Value.int .i64 v_5.1, Value.int .i64 v_5.2.1, Sl.toV v_5.2.2.1, Sl.toV v_5.2.2.2.1, Sl.toV v_5.2.2.2.2.1, Sl.toV v_5.2.2.2.2.2.1, Sl.toV v_5.2.2.2.2.2.2]) ∧
        cnf_atomic (v_5.1, v_5.2.1, v_5.2.2.1, v_5.2.2.2.1, v_5.2.2.2.2.1, v_5.2.2.2.2.2.1, v_5.2.2.2.2.2.2) h0u21 fun v_9 h0u22 =>
        Lift.store row_2 (FnV.toV v_6) h0u22 fun h0u23 =>
        Lift.store atom_3 (FnV.toV v_9) h0u23 fun h0u24 =>
        K0u1 (row_2, atom_3) h0u24
       )
      ) ∧ (
       new [Value.nilFunc] h0u6 fun atom_4 h0u25 =>
       (cells? h0u25 p_1 7 0 = some [Value.int .i64 v_5.1, Value.int .i64 v_5.2.1, Sl.toV v_5.2.2.1, Sl.toV v_5.2.2.2.1, Sl.toV v_5.2.2.2.2.1, Sl.toV v_5.2.2.2.2.2.1, Sl.toV v_5.2.2.2.2.2.2]) ∧
       (
        cnf_atomic (v_5.1, v_5.2.1, v_5.2.2.1, v_5.2.2.2.1, v_5.2.2.2.2.1, v_5.2.2.2.2.2.1, v_5.2.2.2.2.2.2) h0u25 fun v_10 h0u26 =>
        new [Value.nilFunc] h0u26 fun row_3 h0u27 =>
        Lift.store row_3 (FnV.toV v_6) h0u27 fun h0u28 =>
        Lift.store atom_4 (FnV.toV v_10) h0u28 fun h0u29 =>
        K0u1 (row_3, atom_4) h0u29
       ) ∧ (
        new [Value.nilFunc] h0u25 fun row_4 h0u30 =>
        (cells? h0u30 p_1 7 0 = some [Value.int .i64 v_5.1, Value.int .i64 v_5.2.1, Sl.toV v_5.2.2.1, Sl.toV v_5.2.2.2.1, Sl.toV v_5.2.2.2.2.1, Sl.toV v_5.2.2.2.2.2.1, Sl.toV v_5.2.2.2.2.2.2]) ∧
        cnf_atomic (v_5.1, v_5.2.1, v_5.2.2.1, v_5.2.2.2.1, v_5.2.2.2.2.1, v_5.2.2.2.2.2.1, v_5.2.2.2.2.2.2) h0u30 fun v_11 h0u31 =>
        Lift.store row_4 (FnV.toV v_6) h0u31 fun h0u32 =>
        Lift.store atom_4 (FnV.toV v_11) h0u32 fun h0u33 =>
        K0u1 (row_4, atom_4) h0u33
       )
      )
     ) ∧ (
      new [Value.nilFunc] h0u3 fun row_5 h0u34 =>
      (cells? h0u34 p_1 7 0 = some [Value.int .i64 v_4.1, Value.int .i64 v_4.2.1, Sl.toV v_4.2.2.1, Sl.toV v_4.2.2.2.1, Sl.toV v_4.2.2.2.2.1, Sl.toV v_4.2.2.2.2.2.1, Sl.toV v_4.2.2.2.2.2.2]) ∧
      (cells? h0u34 p_1 7 0 = some [Value.int .i64 v_5.1, Value.int .i64 v_5.2.1, Sl.toV v_5.2.2.1, Sl.toV v_5.2.2.2.1, Sl.toV v_5.2.2.2.2.1, Sl.toV v_5.2.2.2.2.2.1, Sl.toV v_5.2.2.2.2.2.2]) ∧
      (
       cnf_rowed (v_4.1, v_4.2.1, v_4.2.2.1, v_4.2.2.2.1, v_4.2.2.2.2.1, v_4.2.2.2.2.2.1, v_4.2.2.2.2.2.2) h0u34 fun v_12 h0u35 =>
       (cells? h0u35 p_1 7 0 = some [Value.int .i64 v_5.1, Value.int .i64 v_5.2.1, Sl.toV v_5.2.2.1, Sl.toV v_5.2.2.2.1, Sl.toV v_5.2.2.2.2.1, Sl.toV v_5.2.2.2.2.2.1, Sl.toV v_5.2.2.2.2.2.2]) ∧
       (
        cnf_atomic (v_5.1, v_5.2.1, v_5.2.2.1, v_5.2.2.2.1, v_5.2.2.2.2.1, v_5.2.2.2.2.2.1, v_5.2.2.2.2.2.2) h0u35 fun v_13 h0u36 =>
        new [Value.nilFunc] h0u36 fun atom_5 h0u37 =>
        Lift.store row_5 (FnV.toV v_12) h0u37 fun h0u38 =>
        Lift.store atom_5 (FnV.toV v_13) h0u38 fun h0u39 =>
        K0u1 (row_5, atom_5) h0u39
       ) ∧ (
        new [Value.nilFunc] h0u35 fun atom_6 h0u40 =>
        (cells? h0u40 p_1 7 0 = some [Value.int .i64 v_5.1, Value.int .i64 v_5.2.1, Sl.toV v_5.2.2.1, Sl.toV v_5.2.2.2.1, Sl.toV v_5.2.2.2.2.1, Sl.toV v_5.2.2.2.2.2.1, Sl.toV v_5.2.2.2.2.2.2]) ∧
        cnf_atomic (v_5.1, v_5.2.1, v_5.2.2.1, v_5.2.2.2.1, v_5.2.2.2.2.1, v_5.2.2.2.2.2.1, v_5.2.2.2.2.2.2) h0u40 fun v_14 h0u41 =>
        Lift.store row_5 (FnV.toV v_12) h0u41 fun h0u42 =>
        Lift.store atom_6 (FnV.toV v_14) h0u42 fun h0u43 =>
        K0u1 (row_5, atom_6) h0u43
       )
      ) ∧ (
       new [Value.nilFunc] h0u34 fun atom_7 h0u44 =>
       (cells? h0u44 p_1 7 0 = some [Value.int .i64 v_4.1, Value.int .i64 v_4.2.1, Sl.toV v_4.2.2.1, Sl.toV v_4.2.2.2.1, Sl.toV v_4.2.2.2.2.1, Sl.toV v_4.2.2.2.2.2.1, Sl.toV v_4.2.2.2.2.2.2]) ∧
       (cells? h0u44 p_1 7 0 = some [Value.int .i64 v_5.1, Value.int .i64 v_5.2.1, Sl.toV v_5.2.2.1, Sl.toV v_5.2.2.2.1, Sl.toV v_5.2.2.2.2.1, Sl.toV v_5.2.2.2.2.2.1, Sl.toV v_5.2.2.2.2.2.2]) ∧
       cnf_rowed (v_4.1, v_4.2.1, v_4.2.2.1, v_4.2.2.2.1, v_4.2.2.2.2.1, v_4.2.2.2.2.2.1, v_4.2.2.2.2.2.2) h0u44 fun v_15 h0u45 =>
       (cells? h0u45 p_1 7 0 = some [Value.int .i64 v_5.1, Value.int .i64 v_5.2.1, Sl.toV v_5.2.2.1, Sl.toV v_5.2.2.2.1, Sl.toV v_5.2.2.2.2.1, Sl.toV v_5.2.2.2.2.2.1, Sl.toV v_5.2.2.2.2.2.2]) ∧
       cnf_atomic (v_5.1, v_5.2.1, v_5.2.2.1, v_5.2.2.2.1, v_5.2.2.2.2.1, v_5.2.2.2.2.2.1, v_5.2.2.2.2.2.2) h0u45 fun v_16 h0u46 =>
       Lift.store row_5 (FnV.toV v_15) h0u46 fun h0u47 =>
       Lift.store atom_7 (FnV.toV v_16) h0u47 fun h0u48 =>
       K0u1 (row_5, atom_7) h0u48
      )
     ) ∧ (
      new [Value.nilFunc] h0u3 fun atom_8 h0u49 =>
      (cells? h0u49 p_1 7 0 = some [Value.int .i64 v_4.1, Value.int .i64 v_4.2.1, Sl.toV v_4.2.2.1, Sl.toV v_4.2.2.2.1, Sl.toV v_4.2.2.2.2.1, Sl.toV v_4.2.2.2.2.2.1, Sl.toV v_4.2.2.2.2.2.2]) ∧
      (cells? h0u49 p_1 7 0 = some [Value.int .i64 v_5.1, Value.int .i64 v_5.2.1, Sl.toV v_5.2.2.1, Sl.toV v_5.2.2.2.1, Sl.toV v_5.2.2.2.2.1, Sl.toV v_5.2.2.2.2.2.1, Sl.toV v_5.2.2.2.2.2.2]) ∧
      (
       cnf_rowed (v_4.1, v_4.2.1, v_4.2.2.1, v_4.2.2.2.1, v_4.2.2.2.2.1, v_4.2.2.2.2.2.1, v_4.2.2.2.2.2.2) h0u49 fun v_17 h0u50 =>
       (cells? h0u50 p_1 7 0 = some [Value.int .i64 v_5.1, Value.int .i64 v_5.2.1, Sl.toV v_5.2.2.1, Sl.toV v_5.2.2.2.1, Sl.toV v_5.2.2.2.2.1, Sl.toV v_5.2.2.2.2.2.1, Sl.toV v_5.2.2.2.2.2.2]) ∧
       (
        cnf_atomic (v_5.1, v_5.2.1, v_5.2.2.1, v_5.2.2.2.1, v_5.2.2.2.2.1, v_5.2.2.2.2.2.1, v_5.2.2.2.2.2.2) h0u50 fun v_18 h0u51 =>
        new [Value.nilFunc] h0u51 fun row_6 h0u52 =>
        Lift.store row_6 (FnV.toV v_17) h0u52 fun h0u53 =>
        Lift.store atom_8 (FnV.toV v_18) h0u53 fun h0u54 =>
        K0u1 (row_6, atom_8) h0u54
       ) ∧ (
        new [Value.nilFunc] h0u50 fun row_7 h0u55 =>
        (cells? h0u55 p_1 7 0 = some [Value.int .i64 v_5.1, Value.int .i64 v_5.2.1, Sl.toV v_5.2.2.1, Sl.toV v_5.2.2.2.1, Sl.toV v_5.2.2.2.2.1, Sl.toV v_5.2.2.2.2.2.1, Sl.toV v_5.2.2.2.2.2.2]) ∧
        cnf_atomic (v_5.1, v_5.2.1, v_5.2.2.1, v_5.2.2.2.1, v_5.2.2.2.2.1, v_5.2.2.2.2.2.1, v_5.2.2.2.2.2.2) h0u55 fun v_19 h0u56 =>
        Lift.store row_7 (FnV.toV v_17) h0u56 fun h0u57 =>
        Lift.store atom_8 (FnV.toV v_19) h0u57 fun h0u58 =>
        K0u1 (row_7, atom_8) h0u58
       )
      ) ∧ (
       new [Value.nilFunc] h0u49 fun row_8 h0u59 =>
       (cells? h0u59 p_1 7 0 = some [Value.int .i64 v_4.1, Value.int .i64 v_4.2.1, Sl.toV v_4.2.2.1, Sl.toV v_4.2.2.2.1, Sl.toV v_4.2.2.2.2.1, Sl.toV v_4.2.2.2.2.2.1, Sl.toV v_4.2.2.2.2.2.2]) ∧
       (cells? h0u59 p_1 7 0 = some [Value.int .i64 v_5.1, Value.int .i64 v_5.2.1, Sl.toV v_5.2.2.1, Sl.toV v_5.2.2.2.1, Sl.toV v_5.2.2.2.2.1, Sl.toV v_5.2.2.2.2.2.1, Sl.toV v_5.2.2.2.2.2.2]) ∧
       cnf_rowed (v_4.1, v_4.2.1, v_4.2.2.1, v_4.2.2.2.1, v_4.2.2.2.2.1, v_4.2.2.2.2.2.1, v_4.2.2.2.2.2.2) h0u59 fun v_20 h0u60 =>
       (cells? h0u60 p_1 7 0 = some [Value.int .i64 v_5.1, Value.int .i64 v_5.2.1, Sl.toV v_5.2.2.1, Sl.toV v_5.2.2.2.1, Sl.toV v_5.2.2.2.2.1, Sl.toV v_5.2.2.2.2.2.1, Sl.toV v_5.2.2.2.2.2.2]) ∧
       cnf_atomic (v_5.1, v_5.2.1, v_5.2.2.1, v_5.2.2.2.1, v_5.2.2.2.2.1, v_5.2.2.2.2.2.1, v_5.2.2.2.2.2.2) h0u60 fun v_21 h0u61 =>
       Lift.store row_8 (FnV.toV v_20) h0u61 fun h0u62 =>
       Lift.store atom_8 (FnV.toV v_21) h0u62 fun h0u63 =>
       K0u1 (row_8, atom_8) h0u63
      )
     )
    ) (fun t0u1 h0u5 =>
     seq (fun (K0u2 : Bool → Heap → Prop) =>
      Lift.load Sl.toV (p_1.add 2) h0u5 fun v_22 =>
      slices_ContainsFunc_api_Poly_api_Poly__cnf_Right_c3 v_22 t0u1.1 h0u5 fun v_23 h0u65 =>
      iteB (!v_23) (
       Lift.load Sl.toV (p_1.add 3) h0u65 fun v_24 =>
       slices_ContainsFunc_api_Atom_api_Atom__cnf_Right_c4 v_24 t0u1.2 h0u65 fun v_25 h0u66 =>
       K0u2 (!v_25) h0u66
      ) (
       K0u2 false h0u65
      )
     ) (fun t0u2 h0u64 =>
      Q t0u2 h0u64
     )
    )
   )
  )

def clause_New (bools : Int) (h : Heap) (Q : (Sl × Sl × Sl × Sl × Sl × Sl × Sl × Int) → Heap → Prop) : Prop :=
  mem h fun h0 =>
  Let ((if 0 > (if 1048576 < bools then 1048576 else bools) then 0 else (if 1048576 < bools then 1048576 else bools)) : Int) fun n =>
  seq (fun (K0 : (Sl × Sl × Sl × Sl × Sl × Sl × Sl × Int) → Heap → Prop) =>
   mem h0 fun h0u2 =>
   (
    mkS [Sl.toV Sl.nil] 24 (IntKind.wrap .i64 (2 * n)) (IntKind.wrap .i64 (2 * n)) h0u2 fun v_196 h0u395 =>
    mem h0u395 fun h0u396 =>
    (
     mkS [Value.int .i64 0] 8 n n h0u396 fun v_197 h0u397 =>
     mem h0u397 fun h0u398 =>
     (
      mkS [Value.int .i64 0] 8 n n h0u398 fun v_198 h0u399 =>
      mem h0u399 fun h0u400 =>
      mkS [Value.int .i64 0] 8 n n h0u400 fun v_199 h0u401 =>
      mem h0u401 fun h0u402 =>
      K0 (Sl.nil, v_196, v_197, v_198, v_199, Sl.nil, Sl.nil, 0) h0u402
     ) ∧ (
      mkS [Value.int .i64 0] 8 n n h0u398 fun v_200 h0u403 =>
      mem h0u403 fun h0u404 =>
      mkS [Value.int .i64 0] 8 n n h0u404 fun v_201 h0u405 =>
      mem h0u405 fun h0u406 =>
      K0 (Sl.nil, v_196, v_197, v_201, v_200, Sl.nil, Sl.nil, 0) h0u406
     )
    ) ∧ (
     mkS [Value.int .i64 0] 8 n n h0u396 fun v_202 h0u407 =>
     mem h0u407 fun h0u408 =>
     (
      mkS [Value.int .i64 0] 8 n n h0u408 fun v_203 h0u409 =>
      mem h0u409 fun h0u410 =>
      mkS [Value.int .i64 0] 8 n n h0u410 fun v_204 h0u411 =>
      mem h0u411 fun h0u412 =>
      K0 (Sl.nil, v_196, v_203, v_202, v_204, Sl.nil, Sl.nil, 0) h0u412
     ) ∧ (
      mkS [Value.int .i64 0] 8 n n h0u408 fun v_205 h0u413 =>
      mem h0u413 fun h0u414 =>
      mkS [Value.int .i64 0] 8 n n h0u414 fun v_206 h0u415 =>
      mem h0u415 fun h0u416 =>
      K0 (Sl.nil, v_196, v_206, v_202, v_205, Sl.nil, Sl.nil, 0) h0u416
     )
    ) ∧ (
     mkS [Value.int .i64 0] 8 n n h0u396 fun v_207 h0u417 =>
     mem h0u417 fun h0u418 =>
     (
      mkS [Value.int .i64 0] 8 n n h0u418 fun v_208 h0u419 =>
      mem h0u419 fun h0u420 =>
      mkS [Value.int .i64 0] 8 n n h0u420 fun v_209 h0u421 =>
      mem h0u421 fun h0u422 =>
      K0 (Sl.nil, v_196, v_208, v_209, v_207, Sl.nil, Sl.nil, 0) h0u422
     ) ∧ (
      mkS [Value.int .i64 0] 8 n n h0u418 fun v_210 h0u423 =>
      mem h0u423 fun h0u424 =>
      mkS [Value.int .i64 0] 8 n n h0u424 fun v_211 h0u425 =>
      mem h0u425 fun h0u426 =>
      K0 (Sl.nil, v_196, v_211, v_210, v_207, Sl.nil, Sl.nil, 0) h0u426
     )
    )
   ) ∧ (
    mkS [Value.int .i64 0] 8 n n h0u2 fun v_212 h0u427 =>
    mem h0u427 fun h0u428 =>
    (
     mkS [Sl.toV Sl.nil] 24 (IntKind.wrap .i64 (2 * n)) (IntKind.wrap .i64 (2 * n)) h0u428 fun v_213 h0u429 =>
     mem h0u429 fun h0u430 =>
     (
      mkS [Value.int .i64 0] 8 n n h0u430 fun v_214 h0u431 =>
      mem h0u431 fun h0u432 =>
      mkS [Value.int .i64 0] 8 n n h0u432 fun v_215 h0u433 =>
      mem h0u433 fun h0u434 =>
      K0 (Sl.nil, v_213, v_212, v_214, v_215, Sl.nil, Sl.nil, 0) h0u434
     ) ∧ (
      mkS [Value.int .i64 0] 8 n n h0u430 fun v_216 h0u435 =>
      mem h0u435 fun h0u436 =>
      mkS [Value.int .i64 0] 8 n n h0u436 fun v_217 h0u437 =>
      mem h0u437 fun h0u438 =>
      K0 (Sl.nil, v_213, v_212, v_217, v_216, Sl.nil, Sl.nil, 0) h0u438
     )
    ) ∧ (
     mkS [Value.int .i64 0] 8 n n h0u428 fun v_218 h0u439 =>
     mem h0u439 fun h0u440 =>
     (
      mkS [Sl.toV Sl.nil] 24 (IntKind.wrap .i64 (2 * n)) (IntKind.wrap .i64 (2 * n)) h0u440 fun v_219 h0u441 =>
      mem h0u441 fun h0u442 =>
      mkS [Value.int .i64 0] 8 n n h0u442 fun v_220 h0u443 =>
      mem h0u443 fun h0u444 =>
      K0 (Sl.nil, v_219, v_212, v_218, v_220, Sl.nil, Sl.nil, 0) h0u444
     ) ∧ (
      mkS [Value.int .i64 0] 8 n n h0u440 fun v_221 h0u445 =>
      mem h0u445 fun h0u446 =>
      mkS [Sl.toV Sl.nil] 24 (IntKind.wrap .i64 (2 * n)) (IntKind.wrap .i64 (2 * n)) h0u446 fun v_222 h0u447 =>
      mem h0u447 fun h0u448 =>
      K0 (Sl.nil, v_222, v_212, v_218, v_221, Sl.nil, Sl.nil, 0) h0u448
     )
    ) ∧ (
     mkS [Value.int .i64 0] 8 n n h0u428 fun v_223 h0u449 =>
     mem h0u449 fun h0u450 =>
     (
      mkS [Sl.toV Sl.nil] 24 (IntKind.wrap .i64 (2 * n)) (IntKind.wrap .i64 (2 * n)) h0u450 fun v_224 h0u451 =>
      mem h0u451 fun h0u452 =>
      mkS [Value.int .i64 0] 8 n n h0u452 fun v_225 h0u453 =>
      mem h0u453 fun h0u454 =>
      K0 (Sl.nil, v_224, v_212, v_225, v_223, Sl.nil, Sl.nil, 0) h0u454
     ) ∧ (
      mkS [Value.int .i64 0] 8 n n h0u450 fun v_226 h0u455 =>
      mem h0u455 fun h0u456 =>
      mkS [Sl.toV Sl.nil] 24 (IntKind.wrap .i64 (2 * n)) (IntKind.wrap .i64 (2 * n)) h0u456 fun v_227 h0u457 =>
      mem h0u457 fun h0u458 =>
      K0 (Sl.nil, v_227, v_212, v_226, v_223, Sl.nil, Sl.nil, 0) h0u458
     )
    )
   ) ∧ (
    mkS [Value.int .i64 0] 8 n n h0u2 fun v_228 h0u459 =>
    mem h0u459 fun h0u460 =>
    (
     mkS [Sl.toV Sl.nil] 24 (IntKind.wrap .i64 (2 * n)) (IntKind.wrap .i64 (2 * n)) h0u460 fun v_229 h0u461 =>
     mem h0u461 fun h0u462 =>
     (
      mkS [Value.int .i64 0] 8 n n h0u462 fun v_230 h0u463 =>
      mem h0u463 fun h0u464 =>
      mkS [Value.int .i64 0] 8 n n h0u464 fun v_231 h0u465 =>
      mem h0u465 fun h0u466 =>
      K0 (Sl.nil, v_229, v_230, v_228, v_231, Sl.nil, Sl.nil, 0) h0u466
     ) ∧ (
      mkS [Value.int .i64 0] 8 n n h0u462 fun v_232 h0u467 =>
      mem h0u467 fun h0u468 =>
      mkS [Value.int .i64 0] 8 n n h0u468 fun v_233 h0u469 =>
      mem h0u469 fun h0u470 =>
      K0 (Sl.nil, v_229, v_233, v_228, v_232, Sl.nil, Sl.nil, 0) h0u470
     )
    ) ∧ (
     mkS [Value.int .i64 0] 8 n n h0u460 fun v_234 h0u471 =>
     mem h0u471 fun h0u472 =>
     (
      mkS [Sl.toV Sl.nil] 24 (IntKind.wrap .i64 (2 * n)) (IntKind.wrap .i64 (2 * n)) h0u472 fun v_235 h0u473 =>
      mem h0u473 fun h0u474 =>
      mkS [Value.int .i64 0] 8 n n h0u474 fun v_236 h0u475 =>
      mem h0u475 fun h0u476 =>
      K0 (Sl.nil, v_235, v_234, v_228, v_236, Sl.nil, Sl.nil, 0) h0u476
     ) ∧ (
      mkS [Value.int .i64 0] 8 n n h0u472 fun v_237 h0u477 =>
      mem h0u477 fun h0u478 =>
      mkS [Sl.toV Sl.nil] 24 (IntKind.wrap .i64 (2 * n)) (IntKind.wrap .i64 (2 * n)) h0u478 fun v_238 h0u479 =>
      mem h0u479 fun h0u480 =>
      K0 (Sl.nil, v_238, v_234, v_228, v_237, Sl.nil, Sl.nil, 0) h0u480
     )
    ) ∧ (
     mkS [Value.int .i64 0] 8 n n h0u460 fun v_239 h0u481 =>
     mem h0u481 fun h0u482 =>
     (
      mkS [Sl.toV Sl.nil] 24 (IntKind.wrap .i64 (2 * n)) (IntKind.wrap .i64 (2 * n)) h0u482 fun v_240 h0u483 =>
      mem h0u483 fun h0u484 =>
      mkS [Value.int .i64 0] 8 n n h0u484 fun v_241 h0u485 =>
      mem h0u485 fun h0u486 =>
      K0 (Sl.nil, v_240, v_241, v_228, v_239, Sl.nil, Sl.nil, 0) h0u486
     ) ∧ (
      mkS [Value.int .i64 0] 8 n n h0u482 fun v_242 h0u487 =>
      mem h0u487 fun h0u488 =>
      mkS [Sl.toV Sl.nil] 24 (IntKind.wrap .i64 (2 * n)) (IntKind.wrap .i64 (2 * n)) h0u488 fun v_243 h0u489 =>
      mem h0u489 fun h0u490 =>
      K0 (Sl.nil, v_243, v_242, v_228, v_239, Sl.nil, Sl.nil, 0) h0u490
     )
    )
   ) ∧ (
    mkS [Value.int .i64 0] 8 n n h0u2 fun v_244 h0u491 =>
    mem h0u491 fun h0u492 =>
    (
     mkS [Sl.toV Sl.nil] 24 (IntKind.wrap .i64 (2 * n)) (IntKind.wrap .i64 (2 * n)) h0u492 fun v_245 h0u493 =>
     mem h0u493 fun h0u494 =>
     (
      mkS [Value.int .i64 0] 8 n n h0u494 fun v_246 h0u495 =>
      mem h0u495 fun h0u496 =>
      mkS [Value.int .i64 0] 8 n n h0u496 fun v_247 h0u497 =>
      mem h0u497 fun h0u498 =>
      K0 (Sl.nil, v_245, v_246, v_247, v_244, Sl.nil, Sl.nil, 0) h0u498
     ) ∧ (
      mkS [Value.int .i64 0] 8 n n h0u494 fun v_248 h0u499 =>
      mem h0u499 fun h0u500 =>
      mkS [Value.int .i64 0] 8 n n h0u500 fun v_249 h0u501 =>
      mem h0u501 fun h0u502 =>
      K0 (Sl.nil, v_245, v_249, v_248, v_244, Sl.nil, Sl.nil, 0) h0u502
     )
    ) ∧ (
     mkS [Value.int .i64 0] 8 n n h0u492 fun v_250 h0u503 =>
     mem h0u503 fun h0u504 =>
     (
      mkS [Sl.toV Sl.nil] 24 (IntKind.wrap .i64 (2 * n)) (IntKind.wrap .i64 (2 * n)) h0u504 fun v_251 h0u505 =>
      mem h0u505 fun h0u506 =>
      mkS [Value.int .i64 0] 8 n n h0u506 fun v_252 h0u507 =>
      mem h0u507 fun h0u508 =>
      K0 (Sl.nil, v_251, v_250, v_252, v_244, Sl.nil, Sl.nil, 0) h0u508
     ) ∧ (
      mkS [Value.int .i64 0] 8 n n h0u504 fun v_253 h0u509 =>
      mem h0u509 fun h0u510 =>
      mkS [Sl.toV Sl.nil] 24 (IntKind.wrap .i64 (2 * n)) (IntKind.wrap .i64 (2 * n)) h0u510 fun v_254 h0u511 =>
      mem h0u511 fun h0u512 =>
      K0 (Sl.nil, v_254, v_250, v_253, v_244, Sl.nil, Sl.nil, 0) h0u512
     )
    ) ∧ (
     mkS [Value.int .i64 0] 8 n n h0u492 fun v_255 h0u513 =>
     mem h0u513 fun h0u514 =>
     (
      mkS [Sl.toV Sl.nil] 24 (IntKind.wrap .i64 (2 * n)) (IntKind.wrap .i64 (2 * n)) h0u514 fun v_256 h0u515 =>
      mem h0u515 fun h0u516 =>
      mkS [Value.int .i64 0] 8 n n h0u516 fun v_257 h0u517 =>
      mem h0u517 fun h0u518 =>
      K0 (Sl.nil, v_256, v_257, v_255, v_244, Sl.nil, Sl.nil, 0) h0u518
     ) ∧ (
      mkS [Value.int .i64 0] 8 n n h0u514 fun v_258 h0u519 =>
      mem h0u519 fun h0u520 =>
      mkS [Sl.toV Sl.nil] 24 (IntKind.wrap .i64 (2 * n)) (IntKind.wrap .i64 (2 * n)) h0u520 fun v_259 h0u521 =>
      mem h0u521 fun h0u522 =>
      K0 (Sl.nil, v_259, v_258, v_255, v_244, Sl.nil, Sl.nil, 0) h0u522
     )
    )
   )
  ) (fun t0 h0u1 =>
   loop (fun (s0 : Int) h0u523 (K0u1 : Int → Heap → Prop) =>
    iteB (decide (s0 < ((t0.2.2.2.2.1.len : Nat) : Int))) (
     idxS t0.2.2.2.2.1 s0 1 fun a =>
     Lift.store a (Value.int .i64 (-1)) h0u523 fun h0u524 =>
     K0u1 (IntKind.wrap .i64 (s0 + 1)) h0u524
    ) (
     Q (t0.1, t0.2.1, t0.2.2.1, t0.2.2.2.1, t0.2.2.2.2.1, t0.2.2.2.2.2.1, t0.2.2.2.2.2.2.1, t0.2.2.2.2.2.2.2) h0u523
    )
   ) 0 h0u1
  )

def queue_New (n : Int) (h : Heap) (Q : (Sl × Sl) → Heap → Prop) : Prop :=
  mem h fun h0 =>
  Let ((if 0 > (if 1048576 < n then 1048576 else n) then 0 else (if 1048576 < n then 1048576 else n)) : Int) fun n_1 =>
  mkS [Value.int .i64 0] 8 n_1 n_1 h0 fun v h0u1 =>
  mem h0u1 fun h0u2 =>
  loop (fun (s0 : Int × Sl × Sl) h0u3 (K0 : (Int × Sl × Sl) → Heap → Prop) =>
   iteB (decide (s0.1 < n_1)) (
    new [Value.int .i64 s0.1] h0u3 fun a h0u4 =>
    appendS 1 8 s0.2.2 (⟨some a, 1, 1⟩ : Sl) h0u4 fun v_2 h0u5 =>
    K0 (IntKind.wrap .i64 (s0.1 + 1), s0.2.1, v_2) h0u5
   ) (
    Q (s0.2.1, s0.2.2) h0u3
   )
  ) (0, v, Sl.nil) h0u2

def slices_Clone_api_Poly_api_Poly (s0 : Sl) (h : Heap) (Q : Sl → Heap → Prop) : Prop :=
  iteB s0.a.isNone (
   Q Sl.nil h
  ) (
   new [] h fun a h0 =>
   appendS 4 80 (⟨some a, 0, 0⟩ : Sl) s0 h0 fun v_1 h0u1 =>
   Q v_1 h0u1
  )

def tableau_New (p : Int × Int × Sl × Sl × Sl × Sl × Sl) (h : Heap) (Q : (Sl × Sl × Sl × Sl × Sl) → Heap → Prop) : Prop :=
  mem h fun h0 =>
  Let (IntKind.wrap .i64 (p.2.1 + ((p.2.2.1.len : Nat) : Int)) : Int) fun n =>
  loop (fun (s0 : Int × Sl × Sl × Sl × Sl × Sl) h0u1 (K0 : (Int × Sl × Sl × Sl × Sl × Sl) → Heap → Prop) =>
   iteB (decide (s0.1 < ((p.2.2.1.len : Nat) : Int))) (
    new [Value.int .i64 (IntKind.wrap .i64 (p.2.1 + s0.1))] h0u1 fun a h0u2 =>
    appendS 1 8 s0.2.1 (⟨some a, 1, 1⟩ : Sl) h0u2 fun v_1 h0u3 =>
    K0 (IntKind.wrap .i64 (s0.1 + 1), v_1, s0.2.2.1, s0.2.2.2.1, s0.2.2.2.2.1, s0.2.2.2.2.2) h0u3
   ) (
    slices_Clone_api_Poly_api_Poly p.2.2.1 h0u1 fun v_2 h0u4 =>
    seq (fun (K0u1 : (Sl × Sl × Sl × Sl × Sl) → Heap → Prop) =>
     (
      mkS [Value.bool false, Sl.toV Sl.nil, Sl.toV Sl.nil, Value.bool false, Sl.toV Sl.nil, Sl.toV Sl.nil] 112 n n h0u4 fun v_3 h0u6 =>
      (
       mkS [Value.int .i64 0, Value.bool false, Sl.toV Sl.nil, Sl.toV Sl.nil, Value.bool false, Sl.toV Sl.nil, Sl.toV Sl.nil] 120 n n h0u6 fun v_11 h0u14 =>
       mkS [Value.int .i64 0, Value.bool false, Sl.toV Sl.nil, Sl.toV Sl.nil, Value.bool false, Sl.toV Sl.nil, Sl.toV Sl.nil] 120 n n h0u14 fun v_13 h0u16 =>
       K0u1 (s0.2.1, v_2, v_3, v_11, v_13) h0u16
      ) ∧ (
       mkS [Value.int .i64 0, Value.bool false, Sl.toV Sl.nil, Sl.toV Sl.nil, Value.bool false, Sl.toV Sl.nil, Sl.toV Sl.nil] 120 n n h0u6 fun v_14 h0u17 =>
       mkS [Value.int .i64 0, Value.bool false, Sl.toV Sl.nil, Sl.toV Sl.nil, Value.bool false, Sl.toV Sl.nil, Sl.toV Sl.nil] 120 n n h0u17 fun v_15 h0u18 =>
       K0u1 (s0.2.1, v_2, v_3, v_15, v_14) h0u18
      )
     ) ∧ (
      mkS [Value.int .i64 0, Value.bool false, Sl.toV Sl.nil, Sl.toV Sl.nil, Value.bool false, Sl.toV Sl.nil, Sl.toV Sl.nil] 120 n n h0u4 fun v_16 h0u19 =>
      (
       mkS [Value.bool false, Sl.toV Sl.nil, Sl.toV Sl.nil, Value.bool false, Sl.toV Sl.nil, Sl.toV Sl.nil] 112 n n h0u19 fun v_17 h0u20 =>
       mkS [Value.int .i64 0, Value.bool false, Sl.toV Sl.nil, Sl.toV Sl.nil, Value.bool false, Sl.toV Sl.nil, Sl.toV Sl.nil] 120 n n h0u20 fun v_20 h0u23 =>
       K0u1 (s0.2.1, v_2, v_17, v_16, v_20) h0u23
      ) ∧ (
       mkS [Value.int .i64 0, Value.bool false, Sl.toV Sl.nil, Sl.toV Sl.nil, Value.bool false, Sl.toV Sl.nil, Sl.toV Sl.nil] 120 n n h0u19 fun v_21 h0u24 =>
       mkS [Value.bool false, Sl.toV Sl.nil, Sl.toV Sl.nil, Value.bool false, Sl.toV Sl.nil, Sl.toV Sl.nil] 112 n n h0u24 fun v_22 h0u25 =>
       K0u1 (s0.2.1, v_2, v_22, v_16, v_21) h0u25
      )
     ) ∧ (
      mkS [Value.int .i64 0, Value.bool false, Sl.toV Sl.nil, Sl.toV Sl.nil, Value.bool false, Sl.toV Sl.nil, Sl.toV Sl.nil] 120 n n h0u4 fun v_23 h0u26 =>
      (
       mkS [Value.bool false, Sl.toV Sl.nil, Sl.toV Sl.nil, Value.bool false, Sl.toV Sl.nil, Sl.toV Sl.nil] 112 n n h0u26 fun v_24 h0u27 =>
       mkS [Value.int .i64 0, Value.bool false, Sl.toV Sl.nil, Sl.toV Sl.nil, Value.bool false, Sl.toV Sl.nil, Sl.toV Sl.nil] 120 n n h0u27 fun v_26 h0u29 =>
       K0u1 (s0.2.1, v_2, v_24, v_26, v_23) h0u29
      ) ∧ (
       mkS [Value.int .i64 0, Value.bool false, Sl.toV Sl.nil, Sl.toV Sl.nil, Value.bool false, Sl.toV Sl.nil, Sl.toV Sl.nil] 120 n n h0u26 fun v_27 h0u30 =>
       mkS [Value.bool false, Sl.toV Sl.nil, Sl.toV Sl.nil, Value.bool false, Sl.toV Sl.nil, Sl.toV Sl.nil] 112 n n h0u30 fun v_28 h0u31 =>
       K0u1 (s0.2.1, v_2, v_28, v_27, v_23) h0u31
      )
     )
    ) (fun t0 h0u5 =>
     Q (t0.1, t0.2.1, t0.2.2.1, t0.2.2.2.1, t0.2.2.2.2) h0u5
    )
   )
  ) (0, Sl.nil, Sl.nil, Sl.nil, Sl.nil, Sl.nil) h0

def clause_there (s0 : (Option Addr)) (lit : Int) (h : Heap) (Q : Bool → Heap → Prop) : Prop :=
  seq (fun (K0 : Bool → Heap → Prop) =>
   iteB (lit != 0) (
    nilChk s0 fun a =>
    Lift.load Sl.toV (a.add 2) h fun v =>
    iteB (decide (lit ≤ ((v.len : Nat) : Int))) (
     nilChk s0 fun a_1 =>
     Lift.load Sl.toV (a_1.add 2) h fun v_1 =>
     K0 (decide (lit ≥ (IntKind.wrap .i64 (0 - ((v_1.len : Nat) : Int))))) h
    ) (
     K0 false h
    )
   ) (
    K0 false h
   )
  ) (fun t0 h0 =>
   Q t0 h0
  )

def clause_truth (lit : Int) (h : Heap) (Q : Int → Heap → Prop) : Prop :=
  Q (IntKind.wrap .i64 ((if (IntKind.wrap .i64 (0 - lit)) > lit then (IntKind.wrap .i64 (0 - lit)) else lit) - 1)) h

def clause_sign (lit : Int) (h : Heap) (Q : Int → Heap → Prop) : Prop :=
  Q (if (-1) > (if 1 < lit then 1 else lit) then (-1) else (if 1 < lit then 1 else lit)) h

def clause_Value (s0 : Sl × Sl × Sl × Sl × Sl × Sl × Sl × Int) (lit : Int) (h : Heap) (Q : Int → Heap → Prop) : Prop :=
  new [Sl.toV s0.1, Sl.toV s0.2.1, Sl.toV s0.2.2.1, Sl.toV s0.2.2.2.1, Sl.toV s0.2.2.2.2.1, Sl.toV s0.2.2.2.2.2.1, Sl.toV s0.2.2.2.2.2.2.1, Value.int .i64 s0.2.2.2.2.2.2.2] h fun s0u1 h0 =>
  clause_there (some s0u1) lit h0 fun v h0u1 =>
  iteB (!v) (
   Q 0 h0u1
  ) (
   Lift.load Sl.toV (s0u1.add 2) h0u1 fun v_1 =>
   clause_truth lit h0u1 fun v_2 h0u2 =>
   (cell? h0u2 (s0u1.add 2) = some (Sl.toV v_1)) ∧
   idxS v_1 v_2 1 fun a =>
   Lift.load (Value.int .i64) a h0u2 fun v_3 =>
   clause_sign lit h0u2 fun v_4 h0u3 =>
   (cell? h0u3 (s0u1.add 2) = some (Sl.toV v_1)) ∧
   (cell? h0u3 a = some (Value.int .i64 v_3)) ∧
   Q (IntKind.wrap .i64 (v_3 * v_4)) h0u3
  )

def clause_put (s0 : (Option Addr)) (lit : Int) (reason : Int) (h : Heap) (Q : Unit → Heap → Prop) : Prop :=
  clause_truth lit h fun v h0 =>
  nilChk s0 fun a =>
  Lift.load Sl.toV (a.add 2) h0 fun v_1 =>
  nilChk s0 fun a_1 =>
  Lift.load Sl.toV (a_1.add 3) h0 fun v_2 =>
  nilChk s0 fun a_2 =>
  Lift.load Sl.toV (a_2.add 4) h0 fun v_3 =>
  nilChk s0 fun a_3 =>
  Lift.load Sl.toV (a_3.add 6) h0 fun v_4 =>
  clause_sign lit h0 fun v_5 h0u1 =>
  (cell? h0u1 (a.add 2) = some (Sl.toV v_1)) ∧
  (cell? h0u1 (a_1.add 3) = some (Sl.toV v_2)) ∧
  (cell? h0u1 (a_2.add 4) = some (Sl.toV v_3)) ∧
  (cell? h0u1 (a_3.add 6) = some (Sl.toV v_4)) ∧
  idxS v_1 v 1 fun a_4 =>
  Lift.store a_4 (Value.int .i64 v_5) h0u1 fun h0u2 =>
  idxS v_2 v 1 fun a_5 =>
  Lift.store a_5 (Value.int .i64 ((v_4.len : Nat) : Int)) h0u2 fun h0u3 =>
  idxS v_3 v 1 fun a_6 =>
  Lift.store a_6 (Value.int .i64 reason) h0u3 fun h0u4 =>
  nilChk s0 fun a_7 =>
  Lift.load Sl.toV (a_7.add 5) h0u4 fun v_6 =>
  new [Value.int .i64 lit] h0u4 fun a_8 h0u5 =>
  appendS 1 8 v_6 (⟨some a_8, 1, 1⟩ : Sl) h0u5 fun v_8 h0u6 =>
  nilChk s0 fun a_9 =>
  Lift.store (a_9.add 5) (Sl.toV v_8) h0u6 fun h0u7 =>
  Q () h0u7

def clause_Tell (s0 : (Option Addr)) (lit : Int) (reason : Int) (h : Heap) (Q : Bool → Heap → Prop) : Prop :=
  seq (fun (K0 : Unit → Heap → Prop) =>
   seq (fun (K0u1 : Bool → Heap → Prop) =>
    clause_there s0 lit h fun v h0u2 =>
    iteB (!v) (
     K0u1 true h0u2
    ) (
     nilChk s0 fun a =>
     loadS C_sl_sl_sl_sl_sl_sl_sl_i64 8 a h0u2 fun v_1 =>
     clause_Value (v_1.1, v_1.2.1, v_1.2.2.1, v_1.2.2.2.1, v_1.2.2.2.2.1, v_1.2.2.2.2.2.1, v_1.2.2.2.2.2.2.1, v_1.2.2.2.2.2.2.2) lit h0u2 fun v_2 h0u3 =>
     K0u1 (decide (v_2 < 0)) h0u3
    )
   ) (fun t0u1 h0u1 =>
    iteB t0u1 (
     Q false h0u1
    ) (
     nilChk s0 fun a_1 =>
     loadS C_sl_sl_sl_sl_sl_sl_sl_i64 8 a_1 h0u1 fun v_3 =>
     clause_Value (v_3.1, v_3.2.1, v_3.2.2.1, v_3.2.2.2.1, v_3.2.2.2.2.1, v_3.2.2.2.2.2.1, v_3.2.2.2.2.2.2.1, v_3.2.2.2.2.2.2.2) lit h0u1 fun v_4 h0u4 =>
     iteB (v_4 == 0) (
      clause_put s0 lit reason h0u4 fun v_5 h0u5 =>
      K0 () h0u5
     ) (
      K0 () h0u4
     )
    )
   )
  ) (fun t0 h0 =>
   Q true h0
  )

def engine_New (p : Int × Int × Sl × Sl × Sl × Sl × Sl) (l : Int × Int) (h : Heap) (Q : ((Int × Int × Sl × Sl × Sl × Sl × Sl × Int × Int × Sl × Sl × Sl × Sl × Sl × Sl × Sl × Int × Sl × Sl × Sl × Sl × Sl × Sl × Sl × Sl × Int × Sl × Int × Int × Int × Int × Int × Int) × Int) → Heap → Prop) : Prop :=
  mem h fun h0 =>
  seq (fun (K0 : Bool → Heap → Prop) =>
   cnf_Right (p.1, p.2.1, p.2.2.1, p.2.2.2.1, p.2.2.2.2.1, p.2.2.2.2.2.1, p.2.2.2.2.2.2) h0 fun v h0u2 =>
   iteB (!v) (
    K0 true h0u2
   ) (
    K0 (decide (p.1 > 1048576)) h0u2
   )
  ) (fun t0 h0u1 =>
   iteB t0 (
    Q ((0, 0, Sl.nil, Sl.nil, Sl.nil, Sl.nil, Sl.nil, 0, 0, Sl.nil, Sl.nil, Sl.nil, Sl.nil, Sl.nil, Sl.nil, Sl.nil, 0, Sl.nil, Sl.nil, Sl.nil, Sl.nil, Sl.nil, Sl.nil, Sl.nil, Sl.nil, 0, Sl.nil, 0, 0, 0, 0, 0, 0), 1) h0u1
   ) (
    seq (fun (K0u1 : Addr → Heap → Prop) =>
     (
      clause_New p.1 h0u1 fun v_1 h0u4 =>
      (
       queue_New p.1 h0u4 fun v_2 h0u5 =>
       (
        tableau_New (p.1, p.2.1, p.2.2.1, p.2.2.2.1, p.2.2.2.2.1, p.2.2.2.2.2.1, p.2.2.2.2.2.2) h0u5 fun v_3 h0u6 =>
        (
         mkS [Value.bool false] 1 p.1 p.1 h0u6 fun v_4 h0u7 =>
         new [Value.int .i64 0, Value.int .i64 0, Sl.toV Sl.nil, Sl.toV Sl.nil, Sl.toV Sl.nil, Sl.toV Sl.nil, Sl.toV Sl.nil, Value.int .i64 0, Value.int .i64 0, Sl.toV Sl.nil, Sl.toV Sl.nil, Sl.toV Sl.nil, Sl.toV Sl.nil, Sl.toV Sl.nil, Sl.toV Sl.nil, Sl.toV Sl.nil, Value.int .i64 0, Sl.toV Sl.nil, Sl.toV Sl.nil, Sl.toV Sl.nil, Sl.toV Sl.nil, Sl.toV Sl.nil, Sl.toV Sl.nil, Sl.toV Sl.nil, Sl.toV Sl.nil, Value.int .i64 0, Sl.toV Sl.nil, Value.int .i64 0, Value.int .i64 0, Value.int .i64 0, Value.int .i64 0, Value.int .i64 0, Value.int .i64 0] h0u7 fun s0 h0u8 =>
         storeS s0 [Value.int .i64 p.1, Value.int .i64 p.2.1, Sl.toV p.2.2.1, Sl.toV p.2.2.2.1, Sl.toV p.2.2.2.2.1, Sl.toV p.2.2.2.2.2.1, Sl.toV p.2.2.2.2.2.2, Value.int .i64 l.1, Value.int .i64 l.2, Sl.toV v_1.1, Sl.toV v_1.2.1, Sl.toV v_1.2.2.1, Sl.toV v_1.2.2.2.1, Sl.toV v_1.2.2.2.2.1, Sl.toV v_1.2.2.2.2.2.1, Sl.toV v_1.2.2.2.2.2.2.1, Value.int .i64 v_1.2.2.2.2.2.2.2, Sl.toV v_2.1, Sl.toV v_2.2, Sl.toV v_3.1, Sl.toV v_3.2.1, Sl.toV v_3.2.2.1, Sl.toV v_3.2.2.2.1, Sl.toV v_3.2.2.2.2, Sl.toV Sl.nil, Value.int .i64 0, Sl.toV v_4, Value.int .i64 0, Value.int .i64 0, Value.int .i64 0, Value.int .i64 0, Value.int .i64 (IntKind.wrap .i64 (64 + (IntKind.wrap .i64 (Int.tdiv ((p.2.2.2.2.1.len : Nat) : Int) 3)))), Value.int .i64 0] h0u8 fun h0u9 =>
         K0u1 s0 h0u9
        ) ∧ (
         new [Value.int .i64 0, Value.int .i64 0, Sl.toV Sl.nil, Sl.toV Sl.nil, Sl.toV Sl.nil, Sl.toV Sl.nil, Sl.toV Sl.nil, Value.int .i64 0, Value.int .i64 0, Sl.toV Sl.nil, Sl.toV Sl.nil, Sl.toV Sl.nil, Sl.toV Sl.nil, Sl.toV Sl.nil, Sl.toV Sl.nil, Sl.toV Sl.nil, Value.int .i64 0, Sl.toV Sl.nil, Sl.toV Sl.nil, Sl.toV Sl.nil, Sl.toV Sl.nil, Sl.toV Sl.nil, Sl.toV Sl.nil, Sl.toV Sl.nil, Sl.toV Sl.nil, Value.int .i64 0, Sl.toV Sl.nil, Value.int .i64 0, Value.int .i64 0, Value.int .i64 0, Value.int .i64 0, Value.int .i64 0, Value.int .i64 0] h0u6 fun s0u1 h0u10 =>
         mkS [Value.bool false] 1 p.1 p.1 h0u10 fun v_5 h0u11 =>
         storeS s0u1 [Value.int .i64 p.1, Value.int .i64 p.2.1, Sl.toV p.2.2.1, Sl.toV p.2.2.2.1, Sl.toV p.2.2.2.2.1, Sl.toV p.2.2.2.2.2.1, Sl.toV p.2.2.2.2.2.2, Value.int .i64 l.1, Value.int .i64 l.2, Sl.toV v_1.1, Sl.toV v_1.2.1, Sl.toV v_1.2.2.1, Sl.toV v_1.2.2.2.1, Sl.toV v_1.2.2.2.2.1, Sl.toV v_1.2.2.2.2.2.1, Sl.toV v_1.2.2.2.2.2.2.1, Value.int .i64 v_1.2.2.2.2.2.2.2, Sl.toV v_2.1, Sl.toV v_2.2, Sl.toV v_3.1, Sl.toV v_3.2.1, Sl.toV v_3.2.2.1, Sl.toV v_3.2.2.2.1, Sl.toV v_3.2.2.2.2, Sl.toV Sl.nil, Value.int .i64 0, Sl.toV v_5, Value.int .i64 0, Value.int .i64 0, Value.int .i64 0, Value.int .i64 0, Value.int .i64 (IntKind.wrap .i64 (64 + (IntKind.wrap .i64 (Int.tdiv ((p.2.2.2.2.1.len : Nat) : Int) 3)))), Value.int .i64 0] h0u11 fun h0u12 =>
         K0u1 s0u1 h0u12
        )
       ) ∧ (
        mkS [Value.bool false] 1 p.1 p.1 h0u5 fun v_6 h0u13 =>
        (
         tableau_New (p.1, p.2.1, p.2.2.1, p.2.2.2.1, p.2.2.2.2.1, p.2.2.2.2.2.1, p.2.2.2.2.2.2) h0u13 fun v_7 h0u14 =>
         new [Value.int .i64 0, Value.int .i64 0, Sl.toV Sl.nil, Sl.toV Sl.nil, Sl.toV Sl.nil, Sl.toV Sl.nil, Sl.toV Sl.nil, Value.int .i64 0, Value.int .i64 0, Sl.toV Sl.nil, Sl.toV Sl.nil, Sl.toV Sl.nil, Sl.toV Sl.nil, Sl.toV Sl.nil, Sl.toV Sl.nil, Sl.toV Sl.nil, Value.int .i64 0, Sl.toV Sl.nil, Sl.toV Sl.nil, Sl.toV Sl.nil, Sl.toV Sl.nil, Sl.toV Sl.nil, Sl.toV Sl.nil, Sl.toV Sl.nil, Sl.toV Sl.nil, Value.int .i64 0, Sl.toV Sl.nil, Value.int .i64 0, Value.int .i64 0, Value.int .i64 0, Value.int .i64 0, Value.int .i64 0, Value.int .i64 0] h0u14 fun s0u2 h0u15 =>
         storeS s0u2 [Value.int .i64 p.1, Value.int .i64 p.2.1, Sl.toV p.2.2.1, Sl.toV p.2.2.2.1, Sl.toV p.2.2.2.2.1, Sl.toV p.2.2.2.2.2.1, Sl.toV p.2.2.2.2.2.2, Value.int .i64 l.1, Value.int .i64 l.2, Sl.toV v_1.1, Sl.toV v_1.2.1, Sl.toV v_1.2.2.1, Sl.toV v_1.2.2.2.1, Sl.toV v_1.2.2.2.2.1, Sl.toV v_1.2.2.2.2.2.1, Sl.toV v_1.2.2.2.2.2.2.1, Value.int .i64 v_1.2.2.2.2.2.2.2, Sl.toV v_2.1, Sl.toV v_2.2, Sl.toV v_7.1, Sl.toV v_7.2.1, Sl.toV v_7.2.2.1, Sl.toV v_7.2.2.2.1, Sl.toV v_7.2.2.2.2, Sl.toV Sl.nil, Value.int .i64 0, Sl.toV v_6, Value.int .i64 0, Value.int .i64 0, Value.int .i64 0, Value.int .i64 0, Value.int .i64 (IntKind.wrap .i64 (64 + (IntKind.wrap .i64 (Int.tdiv ((p.2.2.2.2.1.len : Nat) : Int) 3)))), Value.int .i64 0] h0u15 fun h0u16 =>
         K0u1 s0u2 h0u16
        ) ∧ (
         new [Value.int .i64 0, Value.int .i64 0, Sl.toV Sl.nil, Sl.toV Sl.nil, Sl.toV Sl.nil, Sl.toV Sl.nil, Sl.toV Sl.nil, Value.int .i64 0, Value.int .i64 0, Sl.toV Sl.nil, Sl.toV Sl.nil, Sl.toV Sl.nil, Sl.toV Sl.nil, Sl.toV Sl.nil, Sl.toV Sl.nil, Sl.toV Sl.nil, Value.int .i64 0, Sl.toV Sl.nil, Sl.toV Sl.nil, Sl.toV Sl.nil, Sl.toV Sl.nil, Sl.toV Sl.nil, Sl.toV Sl.nil, Sl.toV Sl.nil, Sl.toV Sl.nil, Value.int .i64 0, Sl.toV Sl.nil, Value.int .i64 0, Value.int .i64 0, Value.int .i64 0, Value.int .i64 0, Value.int .i64 0, Value.int .i64 0] h0u13 fun s0u3 h0u17 =>
         tableau_New (p.1, p.2.1, p.2.2.1, p.2.2.2.1, p.2.2.2.2.1, p.2.2.2.2.2.1, p.2.2.2.2.2.2) h0u17 fun v_8 h0u18 =>
         storeS s0u3 [Value.int .i64 p.1, Value.int .i64 p.2.1, Sl.toV p.2.2.1, Sl.toV p.2.2.2.1, Sl.toV p.2.2.2.2.1, Sl.toV p.2.2.2.2.2.1, Sl.toV p.2.2.2.2.2.2, Value.int .i64 l.1, Value.int .i64 l.2, Sl.toV v_1.1, Sl.toV v_1.2.1, Sl.toV v_1.2.2.1, Sl.toV v_1.2.2.2.1, Sl.toV v_1.2.2.2.2.1, Sl.toV v_1.2.2.2.2.2.1, Sl.toV v_1.2.2.2.2.2.2.1, Value.int .i64 v_1.2.2.2.2.2.2.2, Sl.toV v_2.1, Sl.toV v_2.2, Sl.toV v_8.1, Sl.toV v_8.2.1, Sl.toV v_8.2.2.1, Sl.toV v_8.2.2.2.1, Sl.toV v_8.2.2.2.2, Sl.toV Sl.nil, Value.int .i64 0, Sl.toV v_6, Value.int .i64 0, Value.int .i64 0, Value.int .i64 0, Value.int .i64 0, Value.int .i64 (IntKind.wrap .i64 (64 + (IntKind.wrap .i64 (Int.tdiv ((p.2.2.2.2.1.len : Nat) : Int) 3)))), Value.int .i64 0] h0u18 fun h0u19 =>
         K0u1 s0u3 h0u19
        )
       ) ∧ (
        new [Value.int .i64 0, Value.int .i64 0, Sl.toV Sl.nil, Sl.toV Sl.nil, Sl.toV Sl.nil, Sl.toV Sl.nil, Sl.toV Sl.nil, Value.int .i64 0, Value.int .i64 0, Sl.toV Sl.nil, Sl.toV Sl.nil, Sl.toV Sl.nil, Sl.toV Sl.nil, Sl.toV Sl.nil, Sl.toV Sl.nil, Sl.toV Sl.nil, Value.int .i64 0, Sl.toV Sl.nil, Sl.toV Sl.nil, Sl.toV Sl.nil, Sl.toV Sl.nil, Sl.toV Sl.nil, Sl.toV Sl.nil, Sl.toV Sl.nil, Sl.toV Sl.nil, Value.int .i64 0, Sl.toV Sl.nil, Value.int .i64 0, Value.int .i64 0, Value.int .i64 0, Value.int .i64 0, Value.int .i64 0, Value.int .i64 0] h0u5 fun s0u4 h0u20 =>
        (
         tableau_New (p.1, p.2.1, p.2.2.1, p.2.2.2.1, p.2.2.2.2.1, p.2.2.2.2.2.1, p.2.2.2.2.2.2) h0u20 fun v_9 h0u21 =>
         mkS [Value.bool false] 1 p.1 p.1 h0u21 fun v_10 h0u22 =>
         storeS s0u4 [Value.int .i64 p.1, Value.int .i64 p.2.1, Sl.toV p.2.2.1, Sl.toV p.2.2.2.1, Sl.toV p.2.2.2.2.1, Sl.toV p.2.2.2.2.2.1, Sl.toV p.2.2.2.2.2.2, Value.int .i64 l.1, Value.int .i64 l.2, Sl.toV v_1.1, Sl.toV v_1.2.1, Sl.toV v_1.2.2.1, Sl.toV v_1.2.2.2.1, Sl.toV v_1.2.2.2.2.1, Sl.toV v_1.2.2.2.2.2.1, Sl.toV v_1.2.2.2.2.2.2.1, Value.int .i64 v_1.2.2.2.2.2.2.2, Sl.toV v_2.1, Sl.toV v_2.2, Sl.toV v_9.1, Sl.toV v_9.2.1, Sl.toV v_9.2.2.1, Sl.toV v_9.2.2.2.1, Sl.toV v_9.2.2.2.2, Sl.toV Sl.nil, Value.int .i64 0, Sl.toV v_10, Value.int .i64 0, Value.int .i64 0, Value.int .i64 0, Value.int .i64 0, Value.int .i64 (IntKind.wrap .i64 (64 + (IntKind.wrap .i64 (Int.tdiv ((p.2.2.2.2.1.len : Nat) : Int) 3)))), Value.int .i64 0] h0u22 fun h0u23 =>
         K0u1 s0u4 h0u23
        ) ∧ (
         mkS [Value.bool false] 1 p.1 p.1 h0u20 fun v_11 h0u24 =>
         tableau_New (p.1, p.2.1, p.2.2.1, p.2.2.2.1, p.2.2.2.2.1, p.2.2.2.2.2.1, p.2.2.2.2.2.2) h0u24 fun v_12 h0u25 =>
         storeS s0u4 [Value.int .i64 p.1, Value.int .i64 p.2.1, Sl.toV p.2.2.1, Sl.toV p.2.2.2.1, Sl.toV p.2.2.2.2.1, Sl.toV p.2.2.2.2.2.1, Sl.toV p.2.2.2.2.2.2, Value.int .i64 l.1, Value.int .i64 l.2, Sl.toV v_1.1, Sl.toV v_1.2.1, Sl.toV v_1.2.2.1, Sl.toV v_1.2.2.2.1, Sl.toV v_1.2.2.2.2.1, Sl.toV v_1.2.2.2.2.2.1, Sl.toV v_1.2.2.2.2.2.2.1, Value.int .i64 v_1.2.2.2.2.2.2.2, Sl.toV v_2.1, Sl.toV v_2.2, Sl.toV v_12.1, Sl.toV v_12.2.1, Sl.toV v_12.2.2.1, Sl.toV v_12.2.2.2.1, Sl.toV v_12.2.2.2.2, Sl.toV Sl.nil, Value.int .i64 0, Sl.toV v_11, Value.int .i64 0, Value.int .i64 0, Value.int .i64 0, Value.int .i64 0, Value.int .i64 (IntKind.wrap .i64 (64 + (IntKind.wrap .i64 (Int.tdiv ((p.2.2.2.2.1.len : Nat) : Int) 3)))), Value.int .i64 0] h0u25 fun h0u26 =>
         K0u1 s0u4 h0u26
        )
       )
      ) ∧ (
       mkS [Value.bool false] 1 p.1 p.1 h0u4 fun v_13 h0u27 =>
       (
        queue_New p.1 h0u27 fun v_14 h0u28 =>
        (
         tableau_New (p.1, p.2.1, p.2.2.1, p.2.2.2.1, p.2.2.2.2.1, p.2.2.2.2.2.1, p.2.2.2.2.2.2) h0u28 fun v_15 h0u29 =>
         new [Value.int .i64 0, Value.int .i64 0, Sl.toV Sl.nil, Sl.toV Sl.nil, Sl.toV Sl.nil, Sl.toV Sl.nil, Sl.toV Sl.nil, Value.int .i64 0, Value.int .i64 0, Sl.toV Sl.nil, Sl.toV Sl.nil, Sl.toV Sl.nil, Sl.toV Sl.nil, Sl.toV Sl.nil, Sl.toV Sl.nil, Sl.toV Sl.nil, Value.int .i64 0, Sl.toV Sl.nil, Sl.toV Sl.nil, Sl.toV Sl.nil, Sl.toV Sl.nil, Sl.toV Sl.nil, Sl.toV Sl.nil, Sl.toV Sl.nil, Sl.toV Sl.nil, Value.int .i64 0, Sl.toV Sl.nil, Value.int .i64 0, Value.int .i64 0, Value.int .i64 0, Value.int .i64 0, Value.int .i64 0, Value.int .i64 0] h0u29 fun s0u5 h0u30 =>
         storeS s0u5 [Value.int .i64 p.1, Value.int .i64 p.2.1, Sl.toV p.2.2.1, Sl.toV p.2.2.2.1, Sl.toV p.2.2.2.2.1, Sl.toV p.2.2.2.2.2.1, Sl.toV p.2.2.2.2.2.2, Value.int .i64 l.1, Value.int .i64 l.2, Sl.toV v_1.1, Sl.toV v_1.2.1, Sl.toV v_1.2.2.1, Sl.toV v_1.2.2.2.1, Sl.toV v_1.2.2.2.2.1, Sl.toV v_1.2.2.2.2.2.1, Sl.toV v_1.2.2.2.2.2.2.1, Value.int .i64 v_1.2.2.2.2.2.2.2, Sl.toV v_14.1, Sl.toV v_14.2, Sl.toV v_15.1, Sl.toV v_15.2.1, Sl.toV v_15.2.2.1, Sl.toV v_15.2.2.2.1, Sl.toV v_15.2.2.2.2, Sl.toV Sl.nil, Value.int .i64 0, Sl.toV v_13, Value.int .i64 0, Value.int .i64 0, Value.int .i64 0, Value.int .i64 0, Value.int .i64 (IntKind.wrap .i64 (64 + (IntKind.wrap .i64 (Int.tdiv ((p.2.2.2.2.1.len : Nat) : Int) 3)))), Value.int .i64 0] h0u30 fun h0u31 =>
         K0u1 s0u5 h0u31
        ) ∧ (
         new [Value.int .i64 0, Value.int .i64 0, Sl.toV Sl.nil, Sl.toV Sl.nil, Sl.toV Sl.nil, Sl.toV Sl.nil, Sl.toV Sl.nil, Value.int .i64 0, Value.int .i64 0, Sl.toV Sl.nil, Sl.toV Sl.nil, Sl.toV Sl.nil, Sl.toV Sl.nil, Sl.toV Sl.nil, Sl.toV Sl.nil, Sl.toV Sl.nil, Value.int .i64 0, Sl.toV Sl.nil, Sl.toV Sl.nil, Sl.toV Sl.nil, Sl.toV Sl.nil, Sl.toV Sl.nil, Sl.toV Sl.nil, Sl.toV Sl.nil, Sl.toV Sl.nil, Value.int .i64 0, Sl.toV Sl.nil, Value.int .i64 0, Value.int .i64 0, Value.int .i64 0, Value.int .i64 0, Value.int .i64 0, Value.int .i64 0] h0u28 fun s0u6 h0u32 =>
         tableau_New (p.1, p.2.1, p.2.2.1, p.2.2.2.1, p.2.2.2.2.1, p.2.2.2.2.2.1, p.2.2.2.2.2.2) h0u32 fun v_16 h0u33 =>
         storeS s0u6 [Value.int .i64 p.1, Value.int .i64 p.2.1, Sl.toV p.2.2.1, Sl.toV p.2.2.2.1, Sl.toV p.2.2.2.2.1, Sl.toV p.2.2.2.2.2.1, Sl.toV p.2.2.2.2.2.2, Value.int .i64 l.1, Value.int .i64 l.2, Sl.toV v_1.1, Sl.toV v_1.2.1, Sl.toV v_1.2.2.1, Sl.toV v_1.2.2.2.1, Sl.toV v_1.2.2.2.2.1, Sl.toV v_1.2.2.2.2.2.1, Sl.toV v_1.2.2.2.2.2.2.1, Value.int .i64 v_1.2.2.2.2.2.2.2, Sl.toV v_14.1, Sl.toV v_14.2, Sl.toV v_16.1, Sl.toV v_16.2.1, Sl.toV v_16.2.2.1, Sl.toV v_16.2.2.2.1, Sl.toV v_16.2.2.2.2, Sl.toV Sl.nil, Value.int .i64 0, Sl.toV v_13, Value.int .i64 0, Value.int .i64 0, Value.int .i64 0, Value.int .i64 0, Value.int .i64 (IntKind.wrap .i64 (64 + (IntKind.wrap .i64 (Int.tdiv ((p.2.2.2.2.1.len : Nat) : Int) 3)))), Value.int .i64 0] h0u33 fun h0u34 =>
         K0u1 s0u6 h0u34
        )
       ) ∧ (
        new [Value.int .i64 0, Value.int .i64 0, Sl.toV Sl.nil, Sl.toV Sl.nil, Sl.toV Sl.nil, Sl.toV Sl.nil, Sl.toV Sl.nil, Value.int .i64 0, Value.int .i64 0, Sl.toV Sl.nil, Sl.toV Sl.nil, Sl.toV Sl.nil, Sl.toV Sl.nil, Sl.toV Sl.nil, Sl.toV Sl.nil, Sl.toV Sl.nil, Value.int .i64 0, Sl.toV Sl.nil, Sl.toV Sl.nil, Sl.toV Sl.nil, Sl.toV Sl.nil, Sl.toV Sl.nil, Sl.toV Sl.nil, Sl.toV Sl.nil, Sl.toV Sl.nil, Value.int .i64 0, Sl.toV Sl.nil, Value.int .i64 0, Value.int .i64 0, Value.int .i64 0, Value.int .i64 0, Value.int .i64 0, Value.int .i64 0] h0u27 fun s0u7 h0u35 =>
        queue_New p.1 h0u35 fun v_17 h0u36 =>
        tableau_New (p.1, p.2.1, p.2.2.1, p.2.2.2.1, p.2.2.2.2.1, p.2.2.2.2.2.1, p.2.2.2.2.2.2) h0u36 fun v_18 h0u37 =>
        storeS s0u7 [Value.int .i64 p.1, Value.int .i64 p.2.1, Sl.toV p.2.2.1, Sl.toV p.2.2.2.1, Sl.toV p.2.2.2.2.1, Sl.toV p.2.2.2.2.2.1, Sl.toV p.2.2.2.2.2.2, Value.int .i64 l.1, Value.int .i64 l.2, Sl.toV v_1.1, Sl.toV v_1.2.1, Sl.toV v_1.2.2.1, Sl.toV v_1.2.2.2.1, Sl.toV v_1.2.2.2.2.1, Sl.toV v_1.2.2.2.2.2.1, Sl.toV v_1.2.2.2.2.2.2.1, Value.int .i64 v_1.2.2.2.2.2.2.2, Sl.toV v_17.1, Sl.toV v_17.2, Sl.toV v_18.1, Sl.toV v_18.2.1, Sl.toV v_18.2.2.1, Sl.toV v_18.2.2.2.1, Sl.toV v_18.2.2.2.2, Sl.toV Sl.nil, Value.int .i64 0, Sl.toV v_13, Value.int .i64 0, Value.int .i64 0, Value.int .i64 0, Value.int .i64 0, Value.int .i64 (IntKind.wrap .i64 (64 + (IntKind.wrap .i64 (Int.tdiv ((p.2.2.2.2.1.len : Nat) : Int) 3)))), Value.int .i64 0] h0u37 fun h0u38 =>
        K0u1 s0u7 h0u38
       )
      ) ∧ (
       new [Value.int .i64 0, Value.int .i64 0, Sl.toV Sl.nil, Sl.toV Sl.nil, Sl.toV Sl.nil, Sl.toV Sl.nil, Sl.toV Sl.nil, Value.int .i64 0, Value.int .i64 0, Sl.toV Sl.nil, Sl.toV Sl.nil, Sl.toV Sl.nil, Sl.toV Sl.nil, Sl.toV Sl.nil, Sl.toV Sl.nil, Sl.toV Sl.nil, Value.int .i64 0, Sl.toV Sl.nil, Sl.toV Sl.nil, Sl.toV Sl.nil, Sl.toV Sl.nil, Sl.toV Sl.nil, Sl.toV Sl.nil, Sl.toV Sl.nil, Sl.toV Sl.nil, Value.int .i64 0, Sl.toV Sl.nil, Value.int .i64 0, Value.int .i64 0, Value.int .i64 0, Value.int .i64 0, Value.int .i64 0, Value.int .i64 0] h0u4 fun s0u8 h0u39 =>
       (
        queue_New p.1 h0u39 fun v_19 h0u40 =>
        (
         tableau_New (p.1, p.2.1, p.2.2.1, p.2.2.2.1, p.2.2.2.2.1, p.2.2.2.2.2.1, p.2.2.2.2.2.2) h0u40 fun v_20 h0u41 =>
         mkS [Value.bool false] 1 p.1 p.1 h0u41 fun v_21 h0u42 =>
         storeS s0u8 [Value.int .i64 p.1, Value.int .i64 p.2.1, Sl.toV p.2.2.1, Sl.toV p.2.2.2.1, Sl.toV p.2.2.2.2.1, Sl.toV p.2.2.2.2.2.1, Sl.toV p.2.2.2.2.2.2, Value.int .i64 l.1, Value.int .i64 l.2, Sl.toV v_1.1, Sl.toV v_1.2.1, Sl.toV v_1.2.2.1, Sl.toV v_1.2.2.2.1, Sl.toV v_1.2.2.2.2.1, Sl.toV v_1.2.2.2.2.2.1, Sl.toV v_1.2.2.2.2.2.2.1, Value.int .i64 v_1.2.2.2.2.2.2.2, Sl.toV v_19.1, Sl.toV v_19.2, Sl.toV v_20.1, Sl.toV v_20.2.1, Sl.toV v_20.2.2.1, Sl.toV v_20.2.2.2.1, Sl.toV v_20.2.2.2.2, Sl.toV Sl.nil, Value.int .i64 0, Sl.toV v_21, Value.int .i64 0, Value.int .i64 0, Value.int .i64 0, Value.int .i64 0, Value.int .i64 (IntKind.wrap .i64 (64 + (IntKind.wrap .i64 (Int.tdiv ((p.2.2.2.2.1.len : Nat) : Int) 3)))), Value.int .i64 0] h0u42 fun h0u43 =>
         K0u1 s0u8 h0u43
        ) ∧ (
         mkS [Value.bool false] 1 p.1 p.1 h0u40 fun v_22 h0u44 =>
         tableau_New (p.1, p.2.1, p.2.2.1, p.2.2.2.1, p.2.2.2.2.1, p.2.2.2.2.2.1, p.2.2.2.2.2.2) h0u44 fun v_23 h0u45 =>
         storeS s0u8 [Value.int .i64 p.1, Value.int .i64 p.2.1, Sl.toV p.2.2.1, Sl.toV p.2.2.2.1, Sl.toV p.2.2.2.2.1, Sl.toV p.2.2.2.2.2.1, Sl.toV p.2.2.2.2.2.2, Value.int .i64 l.1, Value.int .i64 l.2, Sl.toV v_1.1, Sl.toV v_1.2.1, Sl.toV v_1.2.2.1, Sl.toV v_1.2.2.2.1, Sl.toV v_1.2.2.2.2.1, Sl.toV v_1.2.2.2.2.2.1, Sl.toV v_1.2.2.2.2.2.2.1, Value.int .i64 v_1.2.2.2.2.2.2.2, Sl.toV v_19.1, Sl.toV v_19.2, Sl.toV v_23.1, Sl.toV v_23.2.1, Sl.toV v_23.2.2.1, Sl.toV v_23.2.2.2.1, Sl.toV v_23.2.2.2.2, Sl.toV Sl.nil, Value.int .i64 0, Sl.toV v_22, Value.int .i64 0, Value.int .i64 0, Value.int .i64 0, Value.int .i64 0, Value.int .i64 (IntKind.wrap .i64 (64 + (IntKind.wrap .i64 (Int.tdiv ((p.2.2.2.2.1.len : Nat) : Int) 3)))), Value.int .i64 0] h0u45 fun h0u46 =>
         K0u1 s0u8 h0u46
        )
       ) ∧ (
        mkS [Value.bool false] 1 p.1 p.1 h0u39 fun v_24 h0u47 =>
        queue_New p.1 h0u47 fun v_25 h0u48 =>
        tableau_New (p.1, p.2.1, p.2.2.1, p.2.2.2.1, p.2.2.2.2.1, p.2.2.2.2.2.1, p.2.2.2.2.2.2) h0u48 fun v_26 h0u49 =>
        storeS s0u8 [Value.int .i64 p.1, Value.int .i64 p.2.1, Sl.toV p.2.2.1, Sl.toV p.2.2.2.1, Sl.toV p.2.2.2.2.1, Sl.toV p.2.2.2.2.2.1, Sl.toV p.2.2.2.2.2.2, Value.int .i64 l.1, Value.int .i64 l.2, Sl.toV v_1.1, Sl.toV v_1.2.1, Sl.toV v_1.2.2.1, Sl.toV v_1.2.2.2.1, Sl.toV v_1.2.2.2.2.1, Sl.toV v_1.2.2.2.2.2.1, Sl.toV v_1.2.2.2.2.2.2.1, Value.int .i64 v_1.2.2.2.2.2.2.2, Sl.toV v_25.1, Sl.toV v_25.2, Sl.toV v_26.1, Sl.toV v_26.2.1, Sl.toV v_26.2.2.1, Sl.toV v_26.2.2.2.1, Sl.toV v_26.2.2.2.2, Sl.toV Sl.nil, Value.int .i64 0, Sl.toV v_24, Value.int .i64 0, Value.int .i64 0, Value.int .i64 0, Value.int .i64 0, Value.int .i64 (IntKind.wrap .i64 (64 + (IntKind.wrap .i64 (Int.tdiv ((p.2.2.2.2.1.len : Nat) : Int) 3)))), Value.int .i64 0] h0u49 fun h0u50 =>
        K0u1 s0u8 h0u50
       )
      )
     ) ∧ (
      mkS [Value.bool false] 1 p.1 p.1 h0u1 fun v_27 h0u51 =>
      (
       clause_New p.1 h0u51 fun v_28 h0u52 =>
       (
        queue_New p.1 h0u52 fun v_29 h0u53 =>
        (
         tableau_New (p.1, p.2.1, p.2.2.1, p.2.2.2.1, p.2.2.2.2.1, p.2.2.2.2.2.1, p.2.2.2.2.2.2) h0u53 fun v_30 h0u54 =>
         new [Value.int .i64 0, Value.int .i64 0, Sl.toV Sl.nil, Sl.toV Sl.nil, Sl.toV Sl.nil, Sl.toV Sl.nil, Sl.toV Sl.nil, Value.int .i64 0, Value.int .i64 0, Sl.toV Sl.nil, Sl.toV Sl.nil, Sl.toV Sl.nil, Sl.toV Sl.nil, Sl.toV Sl.nil, Sl.toV Sl.nil, Sl.toV Sl.nil, Value.int .i64 0, Sl.toV Sl.nil, Sl.toV Sl.nil, Sl.toV Sl.nil, Sl.toV Sl.nil, Sl.toV Sl.nil, Sl.toV Sl.nil, Sl.toV Sl.nil, Sl.toV Sl.nil, Value.int .i64 0, Sl.toV Sl.nil, Value.int .i64 0, Value.int .i64 0, Value.int .i64 0, Value.int .i64 0, Value.int .i64 0, Value.int .i64 0] h0u54 fun s0u9 h0u55 =>
         storeS s0u9 [Value.int .i64 p.1, Value.int .i64 p.2.1, Sl.toV p.2.2.1, Sl.toV p.2.2.2.1, Sl.toV p.2.2.2.2.1, Sl.toV p.2.2.2.2.2.1, Sl.toV p.2.2.2.2.2.2, Value.int .i64 l.1, Value.int .i64 l.2, Sl.toV v_28.1, Sl.toV v_28.2.1, Sl.toV v_28.2.2.1, Sl.toV v_28.2.2.2.1, Sl.toV v_28.2.2.2.2.1, Sl.toV v_28.2.2.2.2.2.1, Sl.toV v_28.2.2.2.2.2.2.1, Value.int .i64 v_28.2.2.2.2.2.2.2, Sl.toV v_29.1, Sl.toV v_29.2, Sl.toV v_30.1, Sl.toV v_30.2.1, Sl.toV v_30.2.2.1, Sl.toV v_30.2.2.2.1, Sl.toV v_30.2.2.2.2, Sl.toV Sl.nil, Value.int .i64 0, Sl.toV v_27, Value.int .i64 0, Value.int .i64 0, Value.int .i64 0, Value.int .i64 0, Value.int .i64 (IntKind.wrap .i64 (64 + (IntKind.wrap .i64 (Int.tdiv ((p.2.2.2.2.1.len : Nat) : Int) 3)))), Value.int .i64 0] h0u55 fun h0u56 =>
         K0u1 s0u9 h0u56
        ) ∧ (
         new [Value.int .i64 0, Value.int .i64 0, Sl.toV Sl.nil, Sl.toV Sl.nil, Sl.toV Sl.nil, Sl.toV Sl.nil, Sl.toV Sl.nil, Value.int .i64 0, Value.int .i64 0, Sl.toV Sl.nil, Sl.toV Sl.nil, Sl.toV Sl.nil, Sl.toV Sl.nil, Sl.toV Sl.nil, Sl.toV Sl.nil, Sl.toV Sl.nil, Value.int .i64 0, Sl.toV Sl.nil, Sl.toV Sl.nil, Sl.toV Sl.nil, Sl.toV Sl.nil, Sl.toV Sl.nil, Sl.toV Sl.nil, Sl.toV Sl.nil, Sl.toV Sl.nil, Value.int .i64 0, Sl.toV Sl.nil, Value.int .i64 0, Value.int .i64 0, Value.int .i64 0, Value.int .i64 0, Value.int .i64 0, Value.int .i64 0] h0u53 fun s0u10 h0u57 =>
         tableau_New (p.1, p.2.1, p.2.2.1, p.2.2.2.1, p.2.2.2.2.1, p.2.2.2.2.2.1, p.2.2.2.2.2.2) h0u57 fun v_31 h0u58 =>
         storeS s0u10 [Value.int .i64 p.1, Value.int .i64 p.2.1, Sl.toV p.2.2.1, Sl.toV p.2.2.2.1, Sl.toV p.2.2.2.2.1, Sl.toV p.2.2.2.2.2.1, Sl.toV p.2.2.2.2.2.2, Value.int .i64 l.1, Value.int .i64 l.2, Sl.toV v_28.1, Sl.toV v_28.2.1, Sl.toV v_28.2.2.1, Sl.toV v_28.2.2.2.1, Sl.toV v_28.2.2.2.2.1, Sl.toV v_28.2.2.2.2.2.1, Sl.toV v_28.2.2.2.2.2.2.1, Value.int .i64 v_28.2.2.2.2.2.2.2, Sl.toV v_29.1, Sl.toV v_29.2, Sl.toV v_31.1, Sl.toV v_31.2.1, Sl.toV v_31.2.2.1, Sl.toV v_31.2.2.2.1, Sl.toV v_31.2.2.2.2, Sl.toV Sl.nil, Value.int .i64 0, Sl.toV v_27, Value.int .i64 0, Value.int .i64 0, Value.int .i64 0, Value.int .i64 0, Value.int .i64 (IntKind.wrap .i64 (64 + (IntKind.wrap .i64 (Int.tdiv ((p.2.2.2.2.1.len : Nat) : Int) 3)))), Value.int .i64 0] h0u58 fun h0u59 =>
         K0u1 s0u10 h0u59
        )
       ) ∧ (
        new [Value.int .i64 0, Value.int .i64 0, Sl.toV Sl.nil, Sl.toV Sl.nil, Sl.toV Sl.nil, Sl.toV Sl.nil, Sl.toV Sl.nil, Value.int .i64 0, Value.int .i64 0, Sl.toV Sl.nil, Sl.toV Sl.nil, Sl.toV Sl.nil, Sl.toV Sl.nil, Sl.toV Sl.nil, Sl.toV Sl.nil, Sl.toV Sl.nil, Value.int .i64 0, Sl.toV Sl.nil, Sl.toV Sl.nil, Sl.toV Sl.nil, Sl.toV Sl.nil, Sl.toV Sl.nil, Sl.toV Sl.nil, Sl.toV Sl.nil, Sl.toV Sl.nil, Value.int .i64 0, Sl.toV Sl.nil, Value.int .i64 0, Value.int .i64 0, Value.int .i64 0, Value.int .i64 0, Value.int .i64 0, Value.int .i64 0] h0u52 fun s0u11 h0u60 =>
        queue_New p.1 h0u60 fun v_32 h0u61 =>
        tableau_New (p.1, p.2.1, p.2.2.1, p.2.2.2.1, p.2.2.2.2.1, p.2.2.2.2.2.1, p.2.2.2.2.2.2) h0u61 fun v_33 h0u62 =>
        storeS s0u11 [Value.int .i64 p.1, Value.int .i64 p.2.1, Sl.toV p.2.2.1, Sl.toV p.2.2.2.1, Sl.toV p.2.2.2.2.1, Sl.toV p.2.2.2.2.2.1, Sl.toV p.2.2.2.2.2.2, Value.int .i64 l.1, Value.int .i64 l.2, Sl.toV v_28.1, Sl.toV v_28.2.1, Sl.toV v_28.2.2.1, Sl.toV v_28.2.2.2.1, Sl.toV v_28.2.2.2.2.1, Sl.toV v_28.2.2.2.2.2.1, Sl.toV v_28.2.2.2.2.2.2.1, Value.int .i64 v_28.2.2.2.2.2.2.2, Sl.toV v_32.1, Sl.toV v_32.2, Sl.toV v_33.1, Sl.toV v_33.2.1, Sl.toV v_33.2.2.1, Sl.toV v_33.2.2.2.1, Sl.toV v_33.2.2.2.2, Sl.toV Sl.nil, Value.int .i64 0, Sl.toV v_27, Value.int .i64 0, Value.int .i64 0, Value.int .i64 0, Value.int .i64 0, Value.int .i64 (IntKind.wrap .i64 (64 + (IntKind.wrap .i64 (Int.tdiv ((p.2.2.2.2.1.len : Nat) : Int) 3)))), Value.int .i64 0] h0u62 fun h0u63 =>
        K0u1 s0u11 h0u63
       )
      ) ∧ (
       new [Value.int .i64 0, Value.int .i64 0, Sl.toV Sl.nil, Sl.toV Sl.nil, Sl.toV Sl.nil, Sl.toV Sl.nil, Sl.toV Sl.nil, Value.int .i64 0, Value.int .i64 0, Sl.toV Sl.nil, Sl.toV Sl.nil, Sl.toV Sl.nil, Sl.toV Sl.nil, Sl.toV Sl.nil, Sl.toV Sl.nil, Sl.toV Sl.nil, Value.int .i64 0, Sl.toV Sl.nil, Sl.toV Sl.nil, Sl.toV Sl.nil, Sl.toV Sl.nil, Sl.toV Sl.nil, Sl.toV Sl.nil, Sl.toV Sl.nil, Sl.toV Sl.nil, Value.int .i64 0, Sl.toV Sl.nil, Value.int .i64 0, Value.int .i64 0, Value.int .i64 0, Value.int .i64 0, Value.int .i64 0, Value.int .i64 0] h0u51 fun s0u12 h0u64 =>
       clause_New p.1 h0u64 fun v_34 h0u65 =>
       queue_New p.1 h0u65 fun v_35 h0u66 =>
       tableau_New (p.1, p.2.1, p.2.2.1, p.2.2.2.1, p.2.2.2.2.1, p.2.2.2.2.2.1, p.2.2.2.2.2.2) h0u66 fun v_36 h0u67 =>
       storeS s0u12 [Value.int .i64 p.1, Value.int .i64 p.2.1, Sl.toV p.2.2.1, Sl.toV p.2.2.2.1, Sl.toV p.2.2.2.2.1, Sl.toV p.2.2.2.2.2.1, Sl.toV p.2.2.2.2.2.2, Value.int .i64 l.1, Value.int .i64 l.2, Sl.toV v_34.1, Sl.toV v_34.2.1, Sl.toV v_34.2.2.1, Sl.toV v_34.2.2.2.1, Sl.toV v_34.2.2.2.2.1, Sl.toV v_34.2.2.2.2.2.1, Sl.toV v_34.2.2.2.2.2.2.1, Value.int .i64 v_34.2.2.2.2.2.2.2, Sl.toV v_35.1, Sl.toV v_35.2, Sl.toV v_36.1, Sl.toV v_36.2.1, Sl.toV v_36.2.2.1, Sl.toV v_36.2.2.2.1, Sl.toV v_36.2.2.2.2, Sl.toV Sl.nil, Value.int .i64 0, Sl.toV v_27, Value.int .i64 0, Value.int .i64 0, Value.int .i64 0, Value.int .i64 0, Value.int .i64 (IntKind.wrap .i64 (64 + (IntKind.wrap .i64 (Int.tdiv ((p.2.2.2.2.1.len : Nat) : Int) 3)))), Value.int .i64 0] h0u67 fun h0u68 =>
       K0u1 s0u12 h0u68
      )
     ) ∧ (
      new [Value.int .i64 0, Value.int .i64 0, Sl.toV Sl.nil, Sl.toV Sl.nil, Sl.toV Sl.nil, Sl.toV Sl.nil, Sl.toV Sl.nil, Value.int .i64 0, Value.int .i64 0, Sl.toV Sl.nil, Sl.toV Sl.nil, Sl.toV Sl.nil, Sl.toV Sl.nil, Sl.toV Sl.nil, Sl.toV Sl.nil, Sl.toV Sl.nil, Value.int .i64 0, Sl.toV Sl.nil, Sl.toV Sl.nil, Sl.toV Sl.nil, Sl.toV Sl.nil, Sl.toV Sl.nil, Sl.toV Sl.nil, Sl.toV Sl.nil, Sl.toV Sl.nil, Value.int .i64 0, Sl.toV Sl.nil, Value.int .i64 0, Value.int .i64 0, Value.int .i64 0, Value.int .i64 0, Value.int .i64 0, Value.int .i64 0] h0u1 fun s0u13 h0u69 =>
      (
       clause_New p.1 h0u69 fun v_37 h0u70 =>
       (
        queue_New p.1 h0u70 fun v_38 h0u71 =>
        (
         tableau_New (p.1, p.2.1, p.2.2.1, p.2.2.2.1, p.2.2.2.2.1, p.2.2.2.2.2.1, p.2.2.2.2.2.2) h0u71 fun v_39 h0u72 =>
         mkS [Value.bool false] 1 p.1 p.1 h0u72 fun v_40 h0u73 =>
         storeS s0u13 [Value.int .i64 p.1, Value.int .i64 p.2.1, Sl.toV p.2.2.1, Sl.toV p.2.2.2.1, Sl.toV p.2.2.2.2.1, Sl.toV p.2.2.2.2.2.1, Sl.toV p.2.2.2.2.2.2, Value.int .i64 l.1, Value.int .i64 l.2, Sl.toV v_37.1, Sl.toV v_37.2.1, Sl.toV v_37.2.2.1, Sl.toV v_37.2.2.2.1, Sl.toV v_37.2.2.2.2.1, Sl.toV v_37.2.2.2.2.2.1, Sl.toV v_37.2.2.2.2.2.2.1, Value.int .i64 v_37.2.2.2.2.2.2.2, Sl.toV v_38.1, Sl.toV v_38.2, Sl.toV v_39.1, Sl.toV v_39.2.1, Sl.toV v_39.2.2.1, Sl.toV v_39.2.2.2.1, Sl.toV v_39.2.2.2.2, Sl.toV Sl.nil, Value.int .i64 0, Sl.toV v_40, Value.int .i64 0, Value.int .i64 0, Value.int .i64 0, Value.int .i64 0, Value.int .i64 (IntKind.wrap .i64 (64 + (IntKind.wrap .i64 (Int.tdiv ((p.2.2.2.2.1.len : Nat) : Int) 3)))), Value.int .i64 0] h0u73 fun h0u74 =>
         K0u1 s0u13 h0u74
        ) ∧ (
         mkS [Value.bool false] 1 p.1 p.1 h0u71 fun v_41 h0u75 =>
         tableau_New (p.1, p.2.1, p.2.2.1, p.2.2.2.1, p.2.2.2.2.1, p.2.2.2.2.2.1, p.2.2.2.2.2.2) h0u75 fun v_42 h0u76 =>
         storeS s0u13 [Value.int .i64 p.1, Value.int .i64 p.2.1, Sl.toV p.2.2.1, Sl.toV p.2.2.2.1, Sl.toV p.2.2.2.2.1, Sl.toV p.2.2.2.2.2.1, Sl.toV p.2.2.2.2.2.2, Value.int .i64 l.1, Value.int .i64 l.2, Sl.toV v_37.1, Sl.toV v_37.2.1, Sl.toV v_37.2.2.1, Sl.toV v_37.2.2.2.1, Sl.toV v_37.2.2.2.2.1, Sl.toV v_37.2.2.2.2.2.1, Sl.toV v_37.2.2.2.2.2.2.1, Value.int .i64 v_37.2.2.2.2.2.2.2, Sl.toV v_38.1, Sl.toV v_38.2, Sl.toV v_42.1, Sl.toV v_42.2.1, Sl.toV v_42.2.2.1, Sl.toV v_42.2.2.2.1, Sl.toV v_42.2.2.2.2, Sl.toV Sl.nil, Value.int .i64 0, Sl.toV v_41, Value.int .i64 0, Value.int .i64 0, Value.int .i64 0, Value.int .i64 0, Value.int .i64 (IntKind.wrap .i64 (64 + (IntKind.wrap .i64 (Int.tdiv ((p.2.2.2.2.1.len : Nat) : Int) 3)))), Value.int .i64 0] h0u76 fun h0u77 =>
         K0u1 s0u13 h0u77
        )
       ) ∧ (
        mkS [Value.bool false] 1 p.1 p.1 h0u70 fun v_43 h0u78 =>
        queue_New p.1 h0u78 fun v_44 h0u79 =>
        tableau_New (p.1, p.2.1, p.2.2.1, p.2.2.2.1, p.2.2.2.2.1, p.2.2.2.2.2.1, p.2.2.2.2.2.2) h0u79 fun v_45 h0u80 =>
        storeS s0u13 [Value.int .i64 p.1, Value.int .i64 p.2.1, Sl.toV p.2.2.1, Sl.toV p.2.2.2.1, Sl.toV p.2.2.2.2.1, Sl.toV p.2.2.2.2.2.1, Sl.toV p.2.2.2.2.2.2, Value.int .i64 l.1, Value.int .i64 l.2, Sl.toV v_37.1, Sl.toV v_37.2.1, Sl.toV v_37.2.2.1, Sl.toV v_37.2.2.2.1, Sl.toV v_37.2.2.2.2.1, Sl.toV v_37.2.2.2.2.2.1, Sl.toV v_37.2.2.2.2.2.2.1, Value.int .i64 v_37.2.2.2.2.2.2.2, Sl.toV v_44.1, Sl.toV v_44.2, Sl.toV v_45.1, Sl.toV v_45.2.1, Sl.toV v_45.2.2.1, Sl.toV v_45.2.2.2.1, Sl.toV v_45.2.2.2.2, Sl.toV Sl.nil, Value.int .i64 0, Sl.toV v_43, Value.int .i64 0, Value.int .i64 0, Value.int .i64 0, Value.int .i64 0, Value.int .i64 (IntKind.wrap .i64 (64 + (IntKind.wrap .i64 (Int.tdiv ((p.2.2.2.2.1.len : Nat) : Int) 3)))), Value.int .i64 0] h0u80 fun h0u81 =>
        K0u1 s0u13 h0u81
       )
      ) ∧ (
       mkS [Value.bool false] 1 p.1 p.1 h0u69 fun v_46 h0u82 =>
       clause_New p.1 h0u82 fun v_47 h0u83 =>
       queue_New p.1 h0u83 fun v_48 h0u84 =>
       tableau_New (p.1, p.2.1, p.2.2.1, p.2.2.2.1, p.2.2.2.2.1, p.2.2.2.2.2.1, p.2.2.2.2.2.2) h0u84 fun v_49 h0u85 =>
       storeS s0u13 [Value.int .i64 p.1, Value.int .i64 p.2.1, Sl.toV p.2.2.1, Sl.toV p.2.2.2.1, Sl.toV p.2.2.2.2.1, Sl.toV p.2.2.2.2.2.1, Sl.toV p.2.2.2.2.2.2, Value.int .i64 l.1, Value.int .i64 l.2, Sl.toV v_47.1, Sl.toV v_47.2.1, Sl.toV v_47.2.2.1, Sl.toV v_47.2.2.2.1, Sl.toV v_47.2.2.2.2.1, Sl.toV v_47.2.2.2.2.2.1, Sl.toV v_47.2.2.2.2.2.2.1, Value.int .i64 v_47.2.2.2.2.2.2.2, Sl.toV v_48.1, Sl.toV v_48.2, Sl.toV v_49.1, Sl.toV v_49.2.1, Sl.toV v_49.2.2.1, Sl.toV v_49.2.2.2.1, Sl.toV v_49.2.2.2.2, Sl.toV Sl.nil, Value.int .i64 0, Sl.toV v_46, Value.int .i64 0, Value.int .i64 0, Value.int .i64 0, Value.int .i64 0, Value.int .i64 (IntKind.wrap .i64 (64 + (IntKind.wrap .i64 (Int.tdiv ((p.2.2.2.2.1.len : Nat) : Int) 3)))), Value.int .i64 0] h0u85 fun h0u86 =>
       K0u1 s0u13 h0u86
      )
     )
    ) (fun t0u1 h0u3 =>
     loop (fun (s0u14 : Sl × Int) h0u87 (K0u2 : (Sl × Int) → Heap → Prop) =>
      iteB (decide (s0u14.2 < ((p.2.2.2.2.1.len : Nat) : Int))) (
       seq (fun (K0u3 : Sl → Heap → Prop) =>
        idxS p.2.2.2.2.1 s0u14.2 1 fun a =>
        Lift.load Sl.toV a h0u87 fun v_50 =>
        False
       ) (fun t0u2 h0u88 =>
        K0u2 (t0u2, IntKind.wrap .i64 (s0u14.2 + 1)) h0u88
       )
      ) (
       loop (fun (s0u15 : Int) h0u89 (K0u4 : Int → Heap → Prop) =>
        iteB (decide (s0u15 < ((s0u14.1.len : Nat) : Int))) (
         seq (fun (K0u5 : Unit → Heap → Prop) =>
          idxS s0u14.1 s0u15 1 fun a_1 =>
          Lift.load (Value.int .i64) a_1 h0u89 fun v_51 =>
          clause_Tell (some (t0u1.add 9)) v_51 (-1) h0u89 fun v_52 h0u91 =>
          iteB (!v_52) (
           Lift.store (t0u1.add 32) (Value.int .i64 2) h0u91 fun h0u92 =>
           K0u5 () h0u92
          ) (
           K0u5 () h0u91
          )
         ) (fun t0u3 h0u90 =>
          K0u4 (IntKind.wrap .i64 (s0u15 + 1)) h0u90
         )
        ) (
         loadS C_i64ui64usl_sl_sl_sl_sl_i64ui64usl_sl_sl_sl_sl_sl_sl_i64usl_sl_sl_sl_sl_sl_sl_sl_i64usl_i64ui64ui64ui64ui64ui64 33 t0u1 h0u89 fun v_53 =>
         Q ((v_53.1, v_53.2.1, v_53.2.2.1, v_53.2.2.2.1, v_53.2.2.2.2.1, v_53.2.2.2.2.2.1, v_53.2.2.2.2.2.2.1, v_53.2.2.2.2.2.2.2.1, v_53.2.2.2.2.2.2.2.2.1, v_53.2.2.2.2.2.2.2.2.2.1, v_53.2.2.2.2.2.2.2.2.2.2.1, v_53.2.2.2.2.2.2.2.2.2.2.2.1, v_53.2.2.2.2.2.2.2.2.2.2.2.2.1, v_53.2.2.2.2.2.2.2.2.2.2.2.2.2.1, v_53.2.2.2.2.2.2.2.2.2.2.2.2.2.2.1, v_53.2.2.2.2.2.2.2.2.2.2.2.2.2.2.2.1, v_53.2.2.2.2.2.2.2.2.2.2.2.2.2.2.2.2.1, v_53.2.2.2.2.2.2.2.2.2.2.2.2.2.2.2.2.2.1, v_53.2.2.2.2.2.2.2.2.2.2.2.2.2.2.2.2.2.2.1, v_53.2.2.2.2.2.2.2.2.2.2.2.2.2.2.2.2.2.2.2.1, v_53.2.2.2.2.2.2.2.2.2.2.2.2.2.2.2.2.2.2.2.2.1, v_53.2.2.2.2.2.2.2.2.2.2.2.2.2.2.2.2.2.2.2.2.2.1, v_53.2.2.2.2.2.2.2.2.2.2.2.2.2.2.2.2.2.2.2.2.2.2.1, v_53.2.2.2.2.2.2.2.2.2.2.2.2.2.2.2.2.2.2.2.2.2.2.2.1, v_53.2.2.2.2.2.2.2.2.2.2.2.2.2.2.2.2.2.2.2.2.2.2.2.2.1, v_53.2.2.2.2.2.2.2.2.2.2.2.2.2.2.2.2.2.2.2.2.2.2.2.2.2.1, v_53.2.2.2.2.2.2.2.2.2.2.2.2.2.2.2.2.2.2.2.2.2.2.2.2.2.2.1, v_53.2.2.2.2.2.2.2.2.2.2.2.2.2.2.2.2.2.2.2.2.2.2.2.2.2.2.2.1, v_53.2.2.2.2.2.2.2.2.2.2.2.2.2.2.2.2.2.2.2.2.2.2.2.2.2.2.2.2.1, v_53.2.2.2.2.2.2.2.2.2.2.2.2.2.2.2.2.2.2.2.2.2.2.2.2.2.2.2.2.2.1, v_53.2.2.2.2.2.2.2.2.2.2.2.2.2.2.2.2.2.2.2.2.2.2.2.2.2.2.2.2.2.2.1, v_53.2.2.2.2.2.2.2.2.2.2.2.2.2.2.2.2.2.2.2.2.2.2.2.2.2.2.2.2.2.2.2.1, v_53.2.2.2.2.2.2.2.2.2.2.2.2.2.2.2.2.2.2.2.2.2.2.2.2.2.2.2.2.2.2.2.2), 0) h0u89
        )
       ) 0 h0u87
      )
     ) (Sl.nil, 0) h0u3
    )
   )
  )

def nat_New (limbs : Int) (h : Heap) (Q : ((Option Addr)) → Heap → Prop) : Prop :=
  new [Value.int .i64 (if 1 > limbs then 1 else limbs), Value.bool false] h fun a h0 =>
  Q (some a) h0

def clause_watch (lit : Int) (h : Heap) (Q : Int → Heap → Prop) : Prop :=
  iteB (decide (lit > 0)) (
   clause_truth lit h fun v h0 =>
   Q (IntKind.wrap .i64 (2 * v)) h0
  ) (
   clause_truth lit h fun v_1 h0u1 =>
   Q (IntKind.wrap .i64 ((IntKind.wrap .i64 (2 * v_1)) + 1)) h0u1
  )

def clause_ask (s0 : (Option Addr)) (at0 : Int) (gone : Int) (h : Heap) (Q : Int → Heap → Prop) : Prop :=
  nilChk s0 fun a =>
  Lift.load Sl.toV (a.add 0) h fun v =>
  idxS v at0 3 fun a_1 =>
  Lift.load Sl.toV (a_1.add 0) h fun v_1 =>
  seq (fun (K0 : Unit → Heap → Prop) =>
   idxS v_1 0 1 fun a_2 =>
   Lift.load (Value.int .i64) a_2 h fun v_2 =>
   iteB (v_2 == gone) (
    idxS v_1 1 1 fun a_3 =>
    Lift.load (Value.int .i64) a_3 h fun v_3 =>
    idxS v_1 0 1 fun a_4 =>
    Lift.load (Value.int .i64) a_4 h fun v_4 =>
    idxS v_1 0 1 fun a_5 =>
    Lift.store a_5 (Value.int .i64 v_3) h fun h0u1 =>
    idxS v_1 1 1 fun a_6 =>
    Lift.store a_6 (Value.int .i64 v_4) h0u1 fun h0u2 =>
    K0 () h0u2
   ) (
    K0 () h
   )
  ) (fun t0 h0 =>
   nilChk s0 fun a_7 =>
   loadS C_sl_sl_sl_sl_sl_sl_sl_i64 8 a_7 h0 fun v_5 =>
   idxS v_1 0 1 fun a_8 =>
   Lift.load (Value.int .i64) a_8 h0 fun v_6 =>
   clause_Value (v_5.1, v_5.2.1, v_5.2.2.1, v_5.2.2.2.1, v_5.2.2.2.2.1, v_5.2.2.2.2.2.1, v_5.2.2.2.2.2.2.1, v_5.2.2.2.2.2.2.2) v_6 h0 fun v_7 h0u3 =>
   iteB (decide (v_7 > 0)) (
    Q 0 h0u3
   ) (
    loop (fun (s0u1 : Int) h0u4 (K0u1 : Int → Heap → Prop) =>
     iteB (decide (s0u1 < ((v_1.len : Nat) : Int))) (
      nilChk s0 fun a_9 =>
      loadS C_sl_sl_sl_sl_sl_sl_sl_i64 8 a_9 h0u4 fun v_8 =>
      idxS v_1 s0u1 1 fun a_10 =>
      Lift.load (Value.int .i64) a_10 h0u4 fun v_9 =>
      clause_Value (v_8.1, v_8.2.1, v_8.2.2.1, v_8.2.2.2.1, v_8.2.2.2.2.1, v_8.2.2.2.2.2.1, v_8.2.2.2.2.2.2.1, v_8.2.2.2.2.2.2.2) v_9 h0u4 fun v_10 h0u5 =>
      iteB (decide (v_10 ≥ 0)) (
       idxS v_1 s0u1 1 fun a_11 =>
       Lift.load (Value.int .i64) a_11 h0u5 fun v_11 =>
       idxS v_1 1 1 fun a_12 =>
       Lift.load (Value.int .i64) a_12 h0u5 fun v_12 =>
       idxS v_1 1 1 fun a_13 =>
       Lift.store a_13 (Value.int .i64 v_11) h0u5 fun h0u6 =>
       idxS v_1 s0u1 1 fun a_14 =>
       Lift.store a_14 (Value.int .i64 v_12) h0u6 fun h0u7 =>
       seq (fun (K0u2 : Unit → Heap → Prop) =>
        nilChk s0 fun a_15 =>
        Lift.load Sl.toV (a_15.add 1) h0u7 fun v_13 =>
        idxS v_1 1 1 fun a_16 =>
        Lift.load (Value.int .i64) a_16 h0u7 fun v_14 =>
        nilChk s0 fun a_17 =>
        Lift.load Sl.toV (a_17.add 1) h0u7 fun v_15 =>
        idxS v_1 1 1 fun a_18 =>
        Lift.load (Value.int .i64) a_18 h0u7 fun v_16 =>
        (
         clause_watch v_14 h0u7 fun v_17 h0u9 =>
         (cell? h0u9 (a_15.add 1) = some (Sl.toV v_13)) ∧
         (cell? h0u9 (a_17.add 1) = some (Sl.toV v_15)) ∧
         (cell? h0u9 a_18 = some (Value.int .i64 v_16)) ∧
         (
          clause_watch v_16 h0u9 fun v_18 h0u10 =>
          (cell? h0u10 (a_15.add 1) = some (Sl.toV v_13)) ∧
          (cell? h0u10 (a_17.add 1) = some (Sl.toV v_15)) ∧
          idxS v_15 v_18 1 fun a_19 =>
          Lift.load Sl.toV a_19 h0u10 fun v_19 =>
          new [Value.int .i64 at0] h0u10 fun a_20 h0u11 =>
          (cell? h0u11 (a_15.add 1) = some (Sl.toV v_13)) ∧
          (cell? h0u11 (a_17.add 1) = some (Sl.toV v_15)) ∧
          (cell? h0u11 a_19 = some (Sl.toV v_19)) ∧
          appendS 1 8 v_19 (⟨some a_20, 1, 1⟩ : Sl) h0u11 fun v_21 h0u12 =>
          (cell? h0u12 (a_15.add 1) = some (Sl.toV v_13)) ∧
          idxS v_13 v_17 1 fun a_21 =>
          Lift.store a_21 (Sl.toV v_21) h0u12 fun h0u13 =>
          K0u2 () h0u13
         ) ∧ (
          new [Value.int .i64 at0] h0u9 fun a_22 h0u14 =>
          (cell? h0u14 (a_15.add 1) = some (Sl.toV v_13)) ∧
          (cell? h0u14 (a_17.add 1) = some (Sl.toV v_15)) ∧
          (cell? h0u14 a_18 = some (Value.int .i64 v_16)) ∧
          clause_watch v_16 h0u14 fun v_23 h0u15 =>
          (cell? h0u15 (a_15.add 1) = some (Sl.toV v_13)) ∧
          (cell? h0u15 (a_17.add 1) = some (Sl.toV v_15)) ∧
          idxS v_15 v_23 1 fun a_23 =>
          Lift.load Sl.toV a_23 h0u15 fun v_24 =>
          appendS 1 8 v_24 (⟨some a_22, 1, 1⟩ : Sl) h0u15 fun v_25 h0u16 =>
          (cell? h0u16 (a_15.add 1) = some (Sl.toV v_13)) ∧
          idxS v_13 v_17 1 fun a_24 =>
          Lift.store a_24 (Sl.toV v_25) h0u16 fun h0u17 =>
          K0u2 () h0u17
         )
        ) ∧ (
         new [Value.int .i64 at0] h0u7 fun a_25 h0u18 =>
         (cell? h0u18 (a_15.add 1) = some (Sl.toV v_13)) ∧
         (cell? h0u18 a_16 = some (Value.int .i64 v_14)) ∧
         (cell? h0u18 (a_17.add 1) = some (Sl.toV v_15)) ∧
         (cell? h0u18 a_18 = some (Value.int .i64 v_16)) ∧
         clause_watch v_14 h0u18 fun v_27 h0u19 =>
         (cell? h0u19 (a_15.add 1) = some (Sl.toV v_13)) ∧
         (cell? h0u19 (a_17.add 1) = some (Sl.toV v_15)) ∧
         (cell? h0u19 a_18 = some (Value.int .i64 v_16)) ∧
         clause_watch v_16 h0u19 fun v_28 h0u20 =>
         (cell? h0u20 (a_15.add 1) = some (Sl.toV v_13)) ∧
         (cell? h0u20 (a_17.add 1) = some (Sl.toV v_15)) ∧
         idxS v_15 v_28 1 fun a_26 =>
         Lift.load Sl.toV a_26 h0u20 fun v_29 =>
         appendS 1 8 v_29 (⟨some a_25, 1, 1⟩ : Sl) h0u20 fun v_30 h0u21 =>
         (cell? h0u21 (a_15.add 1) = some (Sl.toV v_13)) ∧
         idxS v_13 v_27 1 fun a_27 =>
         Lift.store a_27 (Sl.toV v_30) h0u21 fun h0u22 =>
         K0u2 () h0u22
        )
       ) (fun t0u1 h0u8 =>
        Q 1 h0u8
       )
      ) (
       Let (IntKind.wrap .i64 (s0u1 + 1) : Int) fun k =>
       K0u1 k h0u5
      )
     ) (
      idxS v_1 0 1 fun a_28 =>
      Lift.load (Value.int .i64) a_28 h0u4 fun v_31 =>
      clause_Tell s0 v_31 at0 h0u4 fun v_32 h0u23 =>
      iteB (!v_32) (
       Q 2 h0u23
      ) (
       Q 0 h0u23
      )
     )
    ) 2 h0u3
   )
  )

def slices_Grow_int_int (s0 : Sl) (n : Int) (h : Heap) (Q : Sl → Heap → Prop) : Prop :=
  seq (fun (K0 : Unit → Heap → Prop) =>
   iteB (decide (n < 0)) (
    False
   ) (
    K0 () h
   )
  ) (fun t0 h0 =>
   seq (fun (K0u1 : Sl → Heap → Prop) =>
    Let (IntKind.wrap .i64 (n - (IntKind.wrap .i64 (((s0.cap : Nat) : Int) - ((s0.len : Nat) : Int)))) : Int) fun n_1 =>
    iteB (decide (n_1 > 0)) (
     sliceOf s0 none (some ((s0.cap : Nat) : Int)) none 1 fun v =>
     appendZ 1 8 [Value.int .i64 0] v n_1 h0 fun v_1 h0u2 =>
     sliceOf v_1 none (some ((s0.len : Nat) : Int)) none 1 fun v_2 =>
     K0u1 v_2 h0u2
    ) (
     K0u1 s0 h0
    )
   ) (fun t0u1 h0u1 =>
    Q t0u1 h0u1
   )
  )

def slices_Concat_int_int (slices : Sl) (h : Heap) (Q : Sl → Heap → Prop) : Prop :=
  loop (fun (s0 : Int × Int) h0 (K0 : (Int × Int) → Heap → Prop) =>
   iteB (decide (s0.2 < ((slices.len : Nat) : Int))) (
    seq (fun (K0u1 : Int → Heap → Prop) =>
     idxS slices s0.2 1 fun a =>
     Lift.load Sl.toV a h0 fun v =>
     Let (IntKind.wrap .i64 (s0.1 + ((v.len : Nat) : Int)) : Int) fun size =>
     iteB (decide (size < 0)) (
      False
     ) (
      K0u1 size h0
     )
    ) (fun t0 h0u1 =>
     K0 (t0, IntKind.wrap .i64 (s0.2 + 1)) h0u1
    )
   ) (
    slices_Grow_int_int Sl.nil s0.1 h0 fun v_1 h0u2 =>
    loop (fun (s0u1 : Sl × Int) h0u3 (K0u2 : (Sl × Int) → Heap → Prop) =>
     iteB (decide (s0u1.2 < ((slices.len : Nat) : Int))) (
      idxS slices s0u1.2 1 fun a_1 =>
      Lift.load Sl.toV a_1 h0u3 fun v_2 =>
      appendS 1 8 s0u1.1 v_2 h0u3 fun v_3 h0u4 =>
      K0u2 (v_3, IntKind.wrap .i64 (s0u1.2 + 1)) h0u4
     ) (
      Q s0u1.1 h0u3
     )
    ) (v_1, 0) h0u2
   )
  ) (0, 0) h

def clause_Run (s0 : (Option Addr)) (h : Heap) (Q : Int → Heap → Prop) : Prop :=
  seq (fun (K0 : Int → Heap → Prop) =>
   loop (fun (s0u1 : Int) h0u1 (K0u1 : Int → Heap → Prop) =>
    nilChk s0 fun a =>
    Lift.load (Value.int .i64) (a.add 7) h0u1 fun v =>
    nilChk s0 fun a_1 =>
    Lift.load Sl.toV (a_1.add 5) h0u1 fun v_1 =>
    iteB (decide (v < ((v_1.len : Nat) : Int))) (
     nilChk s0 fun a_2 =>
     Lift.load Sl.toV (a_2.add 5) h0u1 fun v_2 =>
     nilChk s0 fun a_3 =>
     Lift.load (Value.int .i64) (a_3.add 7) h0u1 fun v_3 =>
     idxS v_2 v_3 1 fun a_4 =>
     Lift.load (Value.int .i64) a_4 h0u1 fun v_4 =>
     Let (IntKind.wrap .i64 (0 - v_4) : Int) fun gone =>
     nilChk s0 fun a_5 =>
     Lift.load (Value.int .i64) (a_5.add 7) h0u1 fun v_5 =>
     nilChk s0 fun a_6 =>
     Lift.store (a_6.add 7) (Value.int .i64 (IntKind.wrap .i64 (v_5 + 1))) h0u1 fun h0u2 =>
     nilChk s0 fun a_7 =>
     Lift.load Sl.toV (a_7.add 1) h0u2 fun v_6 =>
     clause_watch gone h0u2 fun v_7 h0u3 =>
     (cell? h0u3 (a_7.add 1) = some (Sl.toV v_6)) ∧
     idxS v_6 v_7 1 fun a_8 =>
     Lift.load Sl.toV a_8 h0u3 fun v_8 =>
     nilChk s0 fun a_9 =>
     Lift.load Sl.toV (a_9.add 1) h0u3 fun v_9 =>
     clause_watch gone h0u3 fun v_10 h0u4 =>
     (cell? h0u4 (a_9.add 1) = some (Sl.toV v_9)) ∧
     idxS v_9 v_10 1 fun a_10 =>
     Lift.store a_10 (Sl.toV Sl.nil) h0u4 fun h0u5 =>
     loop (fun (s0u2 : Int × Sl × Int) h0u6 (K0u2 : (Int × Sl × Int) → Heap → Prop) =>
      iteB (decide (s0u2.2.2 < ((v_8.len : Nat) : Int))) (
       idxS v_8 s0u2.2.2 1 fun a_11 =>
       Lift.load (Value.int .i64) a_11 h0u6 fun v_11 =>
       clause_ask s0 v_11 gone h0u6 fun v_12 h0u7 =>
       seq (fun (K0u3 : Sl → Heap → Prop) =>
        iteB (v_12 != 1) (
         new [Value.int .i64 v_11] h0u7 fun a_12 h0u9 =>
         appendS 1 8 s0u2.2.1 (⟨some a_12, 1, 1⟩ : Sl) h0u9 fun v_14 h0u10 =>
         K0u3 v_14 h0u10
        ) (
         K0u3 s0u2.2.1 h0u7
        )
       ) (fun t0u1 h0u8 =>
        iteB (v_12 == 2) (
         nilChk s0 fun a_13 =>
         Lift.load Sl.toV (a_13.add 1) h0u8 fun v_15 =>
         sliceOf v_8 (some (IntKind.wrap .i64 (s0u2.2.2 + 1))) none none 1 fun v_16 =>
         nilChk s0 fun a_14 =>
         Lift.load Sl.toV (a_14.add 1) h0u8 fun v_17 =>
         clause_watch gone h0u8 fun v_18 h0u11 =>
         (cell? h0u11 (a_13.add 1) = some (Sl.toV v_15)) ∧
         (cell? h0u11 (a_14.add 1) = some (Sl.toV v_17)) ∧
         clause_watch gone h0u11 fun v_19 h0u12 =>
         (cell? h0u12 (a_13.add 1) = some (Sl.toV v_15)) ∧
         (cell? h0u12 (a_14.add 1) = some (Sl.toV v_17)) ∧
         idxS v_17 v_19 1 fun a_15 =>
         Lift.load Sl.toV a_15 h0u12 fun v_20 =>
         new [Sl.toV t0u1, Sl.toV v_16, Sl.toV v_20] h0u12 fun a_16 h0u13 =>
         (cell? h0u13 (a_13.add 1) = some (Sl.toV v_15)) ∧
         slices_Concat_int_int (⟨some a_16, 3, 3⟩ : Sl) h0u13 fun v_22 h0u14 =>
         (cell? h0u14 (a_13.add 1) = some (Sl.toV v_15)) ∧
         idxS v_15 v_18 1 fun a_17 =>
         Lift.store a_17 (Sl.toV v_22) h0u14 fun h0u15 =>
         K0 v_11 h0u15
        ) (
         K0u2 (s0u2.1, t0u1, IntKind.wrap .i64 (s0u2.2.2 + 1)) h0u8
        )
       )
      ) (
       nilChk s0 fun a_18 =>
       Lift.load Sl.toV (a_18.add 1) h0u6 fun v_23 =>
       nilChk s0 fun a_19 =>
       Lift.load Sl.toV (a_19.add 1) h0u6 fun v_24 =>
       clause_watch gone h0u6 fun v_25 h0u16 =>
       (cell? h0u16 (a_18.add 1) = some (Sl.toV v_23)) ∧
       (cell? h0u16 (a_19.add 1) = some (Sl.toV v_24)) ∧
       clause_watch gone h0u16 fun v_26 h0u17 =>
       (cell? h0u17 (a_18.add 1) = some (Sl.toV v_23)) ∧
       (cell? h0u17 (a_19.add 1) = some (Sl.toV v_24)) ∧
       idxS v_24 v_26 1 fun a_20 =>
       Lift.load Sl.toV a_20 h0u17 fun v_27 =>
       appendS 1 8 s0u2.2.1 v_27 h0u17 fun v_28 h0u18 =>
       (cell? h0u18 (a_18.add 1) = some (Sl.toV v_23)) ∧
       idxS v_23 v_25 1 fun a_21 =>
       Lift.store a_21 (Sl.toV v_28) h0u18 fun h0u19 =>
       K0u1 s0u2.1 h0u19
      )
     ) (s0u1, Sl.nil, 0) h0u5
    ) (
     K0 s0u1 h0u1
    )
   ) (-1) h
  ) (fun t0 h0 =>
   seq (fun (K0u4 : Unit → Heap → Prop) =>
    iteB (t0 != (-1)) (
     nilChk s0 fun a_22 =>
     Lift.load Sl.toV (a_22.add 0) h0 fun v_29 =>
     idxS v_29 t0 3 fun a_23 =>
     Lift.load (Value.int .i64) (a_23.add 2) h0 fun v_30 =>
     idxS v_29 t0 3 fun a_24 =>
     Lift.store (a_24.add 2) (Value.int .i64 (IntKind.wrap .i64 (v_30 + 1))) h0 fun h0u21 =>
     K0u4 () h0u21
    ) (
     K0u4 () h0
    )
   ) (fun t0u2 h0u20 =>
    Q t0 h0u20
   )
  )

def engine_atoms (p : Int × Int × Sl × Sl × Sl × Sl × Sl) (h : Heap) (Q : ((Option Nat)) → Heap → Prop) : Prop :=
  mem h fun h0 =>
  newM h0 fun v h0u1 =>
  loop (fun (s0 : Int) h0u2 (K0 : Int → Heap → Prop) =>
   iteB (decide (s0 < ((p.2.2.2.1.len : Nat) : Int))) (
    idxS p.2.2.2.1 s0 9 fun a =>
    loadS C_i64ui64ui64ubool_sl_sl_bool_sl_sl 9 a h0u2 fun v_1 =>
    mem h0u2 fun h0u3 =>
    setM .i64 (fun r => Value.agg (C_i64ui64ui64ubool_sl_sl_bool_sl_sl r).toArray) v v_1.1 (v_1.1, v_1.2.1, v_1.2.2.1, v_1.2.2.2.1, v_1.2.2.2.2.1, v_1.2.2.2.2.2.1, v_1.2.2.2.2.2.2.1, v_1.2.2.2.2.2.2.2.1, v_1.2.2.2.2.2.2.2.2) h0u3 fun h0u4 =>
    K0 (IntKind.wrap .i64 (s0 + 1)) h0u4
   ) (
    Q v h0u2
   )
  ) 0 h0u1

def simplex_worst (t0 : (Option Addr)) (h : Heap) (Q : (Int × Bool) → Heap → Prop) : Prop :=
  nilChk t0 fun a =>
  Lift.load Sl.toV (a.add 0) h fun v =>
  loop (fun (s0 : Int × Bool × Int) h0 (K0 : (Int × Bool × Int) → Heap → Prop) =>
   iteB (decide (s0.2.2 < ((v.len : Nat) : Int))) (
    idxS v s0.2.2 1 fun a_1 =>
    Lift.load (Value.int .i64) a_1 h0 fun v_1 =>
    loop (fun (s0u1 : Int × Bool × Int) h0u1 (K0u1 : (Int × Bool × Int) → Heap → Prop) =>
     iteB (decide (s0u1.2.2 < 2)) (
      seq (fun (K0u2 : (Int × Bool) → Heap → Prop) =>
       idxV Value.bool [Value.bool false, Value.bool true] 2 s0u1.2.2 1 fun v_2 =>
       seq (fun (K0u3 : Bool → Heap → Prop) =>
        False
       ) (fun t0u2 h0u3 =>
        iteB t0u2 (
         K0u2 (s0.2.2, v_2) h0u3
        ) (
         K0u2 (s0u1.1, s0u1.2.1) h0u3
        )
       )
      ) (fun t0u1 h0u2 =>
       K0u1 (t0u1.1, t0u1.2, IntKind.wrap .i64 (s0u1.2.2 + 1)) h0u2
      )
     ) (
      K0 (s0u1.1, s0u1.2.1, IntKind.wrap .i64 (s0.2.2 + 1)) h0u1
     )
    ) (s0.1, s0.2.1, 0) h0
   ) (
    Q (s0.1, s0.2.1) h0
   )
  ) ((-1), false, 0) h

def slices_IndexFunc_api_Mono_api_Mono__simplex_Step_c1 (s0 : Sl) (f_c : Addr) (f_c_1 : Addr) (h : Heap) (Q : Int → Heap → Prop) : Prop :=
  loop (fun (s0u1 : Int) h0 (K0 : Int → Heap → Prop) =>
   iteB (decide (s0u1 < ((s0.len : Nat) : Int))) (
    idxS s0 s0u1 4 fun a =>
    loadS C_i64ubool_sl_sl 4 a h0 fun v =>
    False
   ) (
    Q (-1) h0
   )
  ) 0 h

def simplex_Step (b : (Option Addr)) (t0 : (Option Addr)) (h : Heap) (Q : (Int × Sl × Int) → Heap → Prop) : Prop :=
  new [Value.pointer t0] h fun t0u1 h0 =>
  Lift.load Value.pointer t0u1 h0 fun v =>
  simplex_worst v h0 fun v_1 h0u1 =>
  new [Value.bool false] h0u1 fun upper h0u2 =>
  Lift.store upper (Value.bool v_1.2) h0u2 fun h0u3 =>
  iteB (decide (v_1.1 < 0)) (
   Q (0, Sl.nil, 0) h0u3
  ) (
   Lift.load Value.pointer t0u1 h0u3 fun v_2 =>
   nilChk v_2 fun a =>
   Lift.load Sl.toV (a.add 1) h0u3 fun v_3 =>
   idxS v_3 v_1.1 4 fun a_1 =>
   Lift.load Sl.toV (a_1.add 3) h0u3 fun v_4 =>
   slices_IndexFunc_api_Mono_api_Mono__simplex_Step_c1 v_4 t0u1 upper h0u3 fun v_5 h0u4 =>
   iteB (decide (v_5 < 0)) (
    Lift.load Value.pointer t0u1 h0u4 fun v_6 =>
    Lift.load Value.bool upper h0u4 fun v_7 =>
    False
   ) (
    idxS v_4 v_5 4 fun a_2 =>
    loadS C_i64ubool_sl_sl 4 a_2 h0u4 fun v_8 =>
    Lift.load Value.pointer t0u1 h0u4 fun v_9 =>
    nilChk v_9 fun a_3 =>
    Lift.load Sl.toV (a_3.add 0) h0u4 fun v_10 =>
    idxS v_10 v_1.1 1 fun a_4 =>
    Lift.load (Value.int .i64) a_4 h0u4 fun v_11 =>
    mem h0u4 fun h0u5 =>
    seq (fun (K0 : (Bool × Sl × Sl × Bool × Sl × Sl) → Heap → Prop) =>
     False
    ) (fun t0u2 h0u6 =>
     seq (fun (K0u1 : (Bool × Sl × Sl × Bool × Sl × Sl) → Heap → Prop) =>
      False
     ) (fun t0u3 h0u8 =>
      False
     )
    )
   )
  )

def simplex_Check (b : (Option Addr)) (t0 : (Option Addr)) (h : Heap) (Q : (Sl × Int) → Heap → Prop) : Prop :=
  loop (fun (s0 : Unit) h0 (K0 : Unit → Heap → Prop) =>
   simplex_Step b t0 h0 fun v h0u1 =>
   iteB (v.1 != 1) (
    Q (v.2.1, v.2.2) h0u1
   ) (
    K0 () h0u1
   )
  ) () h

def engine_against (list : Sl) (h : Heap) (Q : Sl → Heap → Prop) : Prop :=
  loop (fun (s0 : Sl × Int) h0 (K0 : (Sl × Int) → Heap → Prop) =>
   iteB (decide (s0.2 < ((list.len : Nat) : Int))) (
    idxS list s0.2 4 fun a =>
    loadS C_i64ubool_sl_sl 4 a h0 fun v =>
    mem h0 fun h0u1 =>
    new [Value.int .i64 (IntKind.wrap .i64 (0 - v.1))] h0u1 fun a_1 h0u2 =>
    appendS 1 8 s0.1 (⟨some a_1, 1, 1⟩ : Sl) h0u2 fun v_2 h0u3 =>
    K0 (v_2, IntKind.wrap .i64 (s0.2 + 1)) h0u3
   ) (
    Q s0.1 h0
   )
  ) (Sl.nil, 0) h

def engine_numbers (b : (Option Addr)) (s0 : (Option Addr)) (h : Heap) (Q : Sl → Heap → Prop) : Prop :=
  nilChk s0 fun a =>
  loadS C_i64ui64usl_sl_sl_sl_sl 7 (a.add 0) h fun v =>
  engine_atoms (v.1, v.2.1, v.2.2.1, v.2.2.2.1, v.2.2.2.2.1, v.2.2.2.2.2.1, v.2.2.2.2.2.2) h fun v_1 h0 =>
  loop (fun (s0u1 : Unit) h0u1 (K0 : Unit → Heap → Prop) =>
   nilChk s0 fun a_1 =>
   Lift.load (Value.int .i64) (a_1.add 25) h0u1 fun v_2 =>
   nilChk s0 fun a_2 =>
   Lift.load Sl.toV ((a_2.add 9).add 5) h0u1 fun v_3 =>
   iteB (decide (v_2 < ((v_3.len : Nat) : Int))) (
    seq (fun (K0u1 : Unit → Heap → Prop) =>
     seq (fun (K0u2 : (Bool × Int × Int × Int × Bool × Sl × Sl × Bool × Sl × Sl) → Heap → Prop) =>
      False
     ) (fun t0u1 h0u3 =>
      iteB t0u1.1 (
       False
      ) (
       K0u1 () h0u3
      )
     )
    ) (fun t0 h0u2 =>
     nilChk s0 fun a_6 =>
     Lift.load (Value.int .i64) (a_6.add 25) h0u2 fun v_7 =>
     nilChk s0 fun a_7 =>
     Lift.store (a_7.add 25) (Value.int .i64 (IntKind.wrap .i64 (v_7 + 1))) h0u2 fun h0u5 =>
     K0 () h0u5
    )
   ) (
    nilChk s0 fun a_8 =>
    simplex_Check b (some (a_8.add 19)) h0u1 fun v_8 h0u6 =>
    engine_against v_8.1 h0u6 fun v_9 h0u7 =>
    Q v_9 h0u7
   )
  ) () h0

def engine_clashes (b : (Option Addr)) (s0 : (Option Addr)) (h : Heap) (Q : Sl → Heap → Prop) : Prop :=
  nilChk s0 fun a =>
  clause_Run (some (a.add 9)) h fun v h0 =>
  iteB (v != (-1)) (
   nilChk s0 fun a_1 =>
   Lift.load Sl.toV ((a_1.add 9).add 0) h0 fun v_1 =>
   idxS v_1 v 3 fun a_2 =>
   Lift.load Sl.toV (a_2.add 0) h0 fun v_2 =>
   False
  ) (
   engine_numbers b s0 h0 fun v_3 h0u1 =>
   Q v_3 h0u1
  )

def nat_Bench_Over (b : (Option Addr)) (h : Heap) (Q : Bool → Heap → Prop) : Prop :=
  nilChk b fun a =>
  Lift.load Value.bool (a.add 1) h fun v =>
  Q v h

def engine_Step (s0 : (Option Addr)) (h : Heap) (Q : Unit → Heap → Prop) : Prop :=
  nilChk s0 fun a =>
  Lift.load (Value.int .i64) (a.add 32) h fun v =>
  iteB (v != 0) (
   Q () h
  ) (
   nilChk s0 fun a_1 =>
   Lift.load (Value.int .i64) (a_1.add 27) h fun v_1 =>
   nilChk s0 fun a_2 =>
   Lift.store (a_2.add 27) (Value.int .i64 (IntKind.wrap .i64 (v_1 + 1))) h fun h0 =>
   nilChk s0 fun a_3 =>
   Lift.load (Value.int .i64) ((a_3.add 7).add 0) h0 fun v_2 =>
   nat_New v_2 h0 fun v_3 h0u1 =>
   engine_clashes v_3 s0 h0u1 fun v_4 h0u2 =>
   nat_Bench_Over v_3 h0u2 fun v_5 h0u3 =>
   iteB v_5 (
    nilChk s0 fun a_4 =>
    Lift.store (a_4.add 32) (Value.int .i64 3) h0u3 fun h0u4 =>
    Q () h0u4
   ) (
    iteB (decide (((v_4.len : Nat) : Int) > 0)) (
     nilChk s0 fun a_5 =>
     Lift.load (Value.int .i64) (a_5.add 28) h0u3 fun v_6 =>
     nilChk s0 fun a_6 =>
     Lift.store (a_6.add 28) (Value.int .i64 (IntKind.wrap .i64 (v_6 + 1))) h0u3 fun h0u5 =>
     nilChk s0 fun a_7 =>
     Lift.load (Value.int .i64) (a_7.add 29) h0u5 fun v_7 =>
     nilChk s0 fun a_8 =>
     Lift.store (a_8.add 29) (Value.int .i64 (IntKind.wrap .i64 (v_7 + 1))) h0u5 fun h0u6 =>
     False
    ) (
     nilChk s0 fun a_9 =>
     Lift.load Sl.toV ((a_9.add 9).add 5) h0u3 fun v_8 =>
     nilChk s0 fun a_10 =>
     Lift.load Sl.toV ((a_10.add 9).add 2) h0u3 fun v_9 =>
     iteB (((v_8.len : Nat) : Int) == ((v_9.len : Nat) : Int)) (
      nilChk s0 fun a_11 =>
      Lift.store (a_11.add 32) (Value.int .i64 1) h0u3 fun h0u7 =>
      Q () h0u7
     ) (
      False
     )
    )
   )
  )

def math_bits_Len64 (x0 : Int) (h : Heap) (Q : Int → Heap → Prop) : Prop :=
  seq (fun (K0 : (Int × Int) → Heap → Prop) =>
   iteB (decide (x0 ≥ 4294967296)) (
    Let (Int.fdiv x0 (2 ^ (min (Int.toNat 32) (IntKind.bits .u64))) : Int) fun x0u1 =>
    K0 (x0u1, 32) h
   ) (
    K0 (x0, 0) h
   )
  ) (fun t0 h0 =>
   seq (fun (K0u1 : (Int × Int) → Heap → Prop) =>
    iteB (decide (t0.1 ≥ 65536)) (
     Let (Int.fdiv t0.1 (2 ^ (min (Int.toNat 16) (IntKind.bits .u64))) : Int) fun x0u2 =>
     Let (IntKind.wrap .i64 (t0.2 + 16) : Int) fun n =>
     K0u1 (x0u2, n) h0
    ) (
     K0u1 (t0.1, t0.2) h0
    )
   ) (fun t0u1 h0u1 =>
    seq (fun (K0u2 : (Int × Int) → Heap → Prop) =>
     iteB (decide (t0u1.1 ≥ 256)) (
      Let (Int.fdiv t0u1.1 (2 ^ (min (Int.toNat 8) (IntKind.bits .u64))) : Int) fun x0u3 =>
      Let (IntKind.wrap .i64 (t0u1.2 + 8) : Int) fun n_1 =>
      K0u2 (x0u3, n_1) h0u1
     ) (
      K0u2 (t0u1.1, t0u1.2) h0u1
     )
    ) (fun t0u2 h0u2 =>
     idxStr (ByteArray.mk #[0, 1, 2, 2, 3, 3, 3, 3, 4, 4, 4, 4, 4, 4, 4, 4, 5, 5, 5, 5, 5, 5, 5, 5, 5, 5, 5, 5, 5, 5, 5, 5, 6, 6, 6, 6, 6, 6, 6, 6, 6, 6, 6, 6, 6, 6, 6, 6, 6, 6, 6, 6, 6, 6, 6, 6, 6, 6, 6, 6, 6, 6, 6, 6, 7, 7, 7, 7, 7, 7, 7, 7, 7, 7, 7, 7, 7, 7, 7, 7, 7, 7, 7, 7, 7, 7, 7, 7, 7, 7, 7, 7, 7, 7, 7, 7, 7, 7, 7, 7, 7, 7, 7, 7, 7, 7, 7, 7, 7, 7, 7, 7, 7, 7, 7, 7, 7, 7, 7, 7, 7, 7, 7, 7, 7, 7, 7, 7, 8, 8, 8, 8, 8, 8, 8, 8, 8, 8, 8, 8, 8, 8, 8, 8, 8, 8, 8, 8, 8, 8, 8, 8, 8, 8, 8, 8, 8, 8, 8, 8, 8, 8, 8, 8, 8, 8, 8, 8, 8, 8, 8, 8, 8, 8, 8, 8, 8, 8, 8, 8, 8, 8, 8, 8, 8, 8, 8, 8, 8, 8, 8, 8, 8, 8, 8, 8, 8, 8, 8, 8, 8, 8, 8, 8, 8, 8, 8, 8, 8, 8, 8, 8, 8, 8, 8, 8, 8, 8, 8, 8, 8, 8, 8, 8, 8, 8, 8, 8, 8, 8, 8, 8, 8, 8, 8, 8, 8, 8, 8, 8, 8, 8, 8, 8, 8, 8, 8, 8, 8, 8, 8, 8, 8, 8, 8, 8]) (IntKind.wrap .u8 t0u2.1) fun v =>
     Let (IntKind.wrap .i64 (t0u2.2 + (IntKind.wrap .i64 v)) : Int) fun n_2 =>
     Q n_2 h0u2
    )
   )
  )

def math_bits_Len (x0 : Int) (h : Heap) (Q : Int → Heap → Prop) : Prop :=
  math_bits_Len64 x0 h fun v h0 =>
  Q v h0

def engine_Luby (n : Int) (h : Heap) (Q : Int → Heap → Prop) : Prop :=
  loop (fun (s0 : Int) h0 (K0 : Int → Heap → Prop) =>
   iteB (decide (s0 > 0)) (
    math_bits_Len (IntKind.wrap .u64 s0) h0 fun v h0u1 =>
    (0 ≤ v) ∧
    iteB (s0 == (IntKind.wrap .i64 ((IntKind.wrap .i64 (1 * 2 ^ (min (Int.toNat v) (IntKind.bits .i64)))) - 1))) (
     (0 ≤ (IntKind.wrap .i64 (v - 1))) ∧
     Q (IntKind.wrap .i64 (1 * 2 ^ (min (Int.toNat (IntKind.wrap .i64 (v - 1))) (IntKind.bits .i64)))) h0u1
    ) (
     (0 ≤ (IntKind.wrap .i64 (v - 1))) ∧
     Let (IntKind.wrap .i64 (s0 - (IntKind.wrap .i64 ((IntKind.wrap .i64 (1 * 2 ^ (min (Int.toNat (IntKind.wrap .i64 (v - 1))) (IntKind.bits .i64)))) - 1))) : Int) fun n_1 =>
     K0 n_1 h0u1
    )
   ) (
    Q 0 h0
   )
  ) n h

def law20uspeaks (h : Heap) (Q : Bool → Heap → Prop) : Prop :=
  engine_New (0, 0, Sl.nil, Sl.nil, Sl.nil, Sl.nil, Sl.nil) (2, 9) h fun v h0 =>
  new [Value.int .i64 0, Value.int .i64 0, Sl.toV Sl.nil, Sl.toV Sl.nil, Sl.toV Sl.nil, Sl.toV Sl.nil, Sl.toV Sl.nil, Value.int .i64 0, Value.int .i64 0, Sl.toV Sl.nil, Sl.toV Sl.nil, Sl.toV Sl.nil, Sl.toV Sl.nil, Sl.toV Sl.nil, Sl.toV Sl.nil, Sl.toV Sl.nil, Value.int .i64 0, Sl.toV Sl.nil, Sl.toV Sl.nil, Sl.toV Sl.nil, Sl.toV Sl.nil, Sl.toV Sl.nil, Sl.toV Sl.nil, Sl.toV Sl.nil, Sl.toV Sl.nil, Value.int .i64 0, Sl.toV Sl.nil, Value.int .i64 0, Value.int .i64 0, Value.int .i64 0, Value.int .i64 0, Value.int .i64 0, Value.int .i64 0] h0 fun s0 h0u1 =>
  storeS s0 [Value.int .i64 v.1.1, Value.int .i64 v.1.2.1, Sl.toV v.1.2.2.1, Sl.toV v.1.2.2.2.1, Sl.toV v.1.2.2.2.2.1, Sl.toV v.1.2.2.2.2.2.1, Sl.toV v.1.2.2.2.2.2.2.1, Value.int .i64 v.1.2.2.2.2.2.2.2.1, Value.int .i64 v.1.2.2.2.2.2.2.2.2.1, Sl.toV v.1.2.2.2.2.2.2.2.2.2.1, Sl.toV v.1.2.2.2.2.2.2.2.2.2.2.1, Sl.toV v.1.2.2.2.2.2.2.2.2.2.2.2.1, Sl.toV v.1.2.2.2.2.2.2.2.2.2.2.2.2.1, Sl.toV v.1.2.2.2.2.2.2.2.2.2.2.2.2.2.1, Sl.toV v.1.2.2.2.2.2.2.2.2.2.2.2.2.2.2.1, Sl.toV v.1.2.2.2.2.2.2.2.2.2.2.2.2.2.2.2.1, Value.int .i64 v.1.2.2.2.2.2.2.2.2.2.2.2.2.2.2.2.2.1, Sl.toV v.1.2.2.2.2.2.2.2.2.2.2.2.2.2.2.2.2.2.1, Sl.toV v.1.2.2.2.2.2.2.2.2.2.2.2.2.2.2.2.2.2.2.1, Sl.toV v.1.2.2.2.2.2.2.2.2.2.2.2.2.2.2.2.2.2.2.2.1, Sl.toV v.1.2.2.2.2.2.2.2.2.2.2.2.2.2.2.2.2.2.2.2.2.1, Sl.toV v.1.2.2.2.2.2.2.2.2.2.2.2.2.2.2.2.2.2.2.2.2.2.1, Sl.toV v.1.2.2.2.2.2.2.2.2.2.2.2.2.2.2.2.2.2.2.2.2.2.2.1, Sl.toV v.1.2.2.2.2.2.2.2.2.2.2.2.2.2.2.2.2.2.2.2.2.2.2.2.1, Sl.toV v.1.2.2.2.2.2.2.2.2.2.2.2.2.2.2.2.2.2.2.2.2.2.2.2.2.1, Value.int .i64 v.1.2.2.2.2.2.2.2.2.2.2.2.2.2.2.2.2.2.2.2.2.2.2.2.2.2.1, Sl.toV v.1.2.2.2.2.2.2.2.2.2.2.2.2.2.2.2.2.2.2.2.2.2.2.2.2.2.2.1, Value.int .i64 v.1.2.2.2.2.2.2.2.2.2.2.2.2.2.2.2.2.2.2.2.2.2.2.2.2.2.2.2.1, Value.int .i64 v.1.2.2.2.2.2.2.2.2.2.2.2.2.2.2.2.2.2.2.2.2.2.2.2.2.2.2.2.2.1, Value.int .i64 v.1.2.2.2.2.2.2.2.2.2.2.2.2.2.2.2.2.2.2.2.2.2.2.2.2.2.2.2.2.2.1, Value.int .i64 v.1.2.2.2.2.2.2.2.2.2.2.2.2.2.2.2.2.2.2.2.2.2.2.2.2.2.2.2.2.2.2.1, Value.int .i64 v.1.2.2.2.2.2.2.2.2.2.2.2.2.2.2.2.2.2.2.2.2.2.2.2.2.2.2.2.2.2.2.2.1, Value.int .i64 v.1.2.2.2.2.2.2.2.2.2.2.2.2.2.2.2.2.2.2.2.2.2.2.2.2.2.2.2.2.2.2.2.2] h0u1 fun h0u2 =>
  engine_Step (some s0) h0u2 fun v_1 h0u3 =>
  seq (fun (K0 : Bool → Heap → Prop) =>
   iteB (v.2 == 0) (
    Lift.load (Value.int .i64) (s0.add 32) h0u3 fun v_2 =>
    iteB (v_2 == 1) (
     Lift.load (Value.int .i64) (s0.add 27) h0u3 fun v_3 =>
     iteB (v_3 == 1) (
      engine_Luby 7 h0u3 fun v_4 h0u5 =>
      K0 (v_4 == 4) h0u5
     ) (
      K0 false h0u3
     )
    ) (
     K0 false h0u3
    )
   ) (
    K0 false h0u3
   )
  ) (fun t0 h0u4 =>
   Q t0 h0u4
  )

def ref20uLuby (n : Int) (h : Heap) (Q : Int → Heap → Prop) : Prop :=
  new [Value.int .i64 1] h fun a h0 =>
  Let ((⟨some a, 1, 1⟩ : Sl) : Sl) fun row =>
  loop (fun (s0 : Sl) h0u1 (K0 : Sl → Heap → Prop) =>
   iteB (decide (((s0.len : Nat) : Int) < n)) (
    idxS s0 (IntKind.wrap .i64 (((s0.len : Nat) : Int) - 1)) 1 fun a_1 =>
    Lift.load (Value.int .i64) a_1 h0u1 fun v_1 =>
    (
     appendS 1 8 s0 s0 h0u1 fun v_2 h0u2 =>
     (cell? h0u2 a_1 = some (Value.int .i64 v_1)) ∧
     new [Value.int .i64 (IntKind.wrap .i64 (2 * v_1))] h0u2 fun a_2 h0u3 =>
     appendS 1 8 v_2 (⟨some a_2, 1, 1⟩ : Sl) h0u3 fun v_4 h0u4 =>
     K0 v_4 h0u4
    ) ∧ (
     new [Value.int .i64 (IntKind.wrap .i64 (2 * v_1))] h0u1 fun a_3 h0u5 =>
     appendS 1 8 s0 s0 h0u5 fun v_6 h0u6 =>
     appendS 1 8 v_6 (⟨some a_3, 1, 1⟩ : Sl) h0u6 fun v_7 h0u7 =>
     K0 v_7 h0u7
    )
   ) (
    idxS s0 (IntKind.wrap .i64 (n - 1)) 1 fun a_4 =>
    Lift.load (Value.int .i64) a_4 h0u1 fun v_8 =>
    Q v_8 h0u1
   )
  ) row h0

def law20uEngineLuby (n : Int) (h : Heap) (Q : Bool → Heap → Prop) : Prop :=
  law20uspeaks h fun v h0 =>
  iteB (!v) (
   Q false h0
  ) (
   iteB (decide (n < 1)) (
    engine_Luby n h0 fun v_1 h0u1 =>
    Q (v_1 == 0) h0u1
   ) (
    Let (IntKind.wrap .i64 (((BitVec.ofInt (IntKind.bits .i64) n &&& BitVec.ofInt (IntKind.bits .i64) 4095).toNat : Int)) : Int) fun k =>
    seq (fun (K0 : Bool → Heap → Prop) =>
     iteB (k == 0) (
      K0 true h0
     ) (
      engine_Luby k h0 fun v_2 h0u3 =>
      ref20uLuby k h0u3 fun v_3 h0u4 =>
      K0 (v_2 == v_3) h0u4
     )
    ) (fun t0 h0u2 =>
     Q t0 h0u2
    )
   )
  )
end Go.Sh

/-
  The functions, as they are seen: printed by lift.py.
-/
import Derived.Test.YtafkahjfbiamlaaFwM
set_option linter.unusedVariables false
set_option linter.unusedSimpArgs false
namespace Go.Sh
open Go Go.Lift

def C_i64ui64ui64 (x : Int × Int × Int) : List Value := [Value.int .i64 x.1, Value.int .i64 x.2.1, Value.int .i64 x.2.2]
def C_ptr (x : (Option Addr)) : List Value := [Value.pointer x]
def C_sl_sl (x : Sl × Sl) : List Value := [Sl.toV x.1, Sl.toV x.2]

def queue_New (n : Int) (h : Heap) (Q : (Sl × Sl) → Heap → Prop) : Prop :=
  mem h fun h0 =>
  Let ((if 0 > (if 1048576 < n then 1048576 else n) then 0 else (if 1048576 < n then 1048576 else n)) : Int) fun n_1 =>
  mkS [Value.int .i64 0] 8 n_1 n_1 h0 fun v h0u1 =>
  mem h0u1 fun h0u2 =>
  loop (fun (s0 : Int × Sl × Sl) h0u3 (K0 : (Int × Sl × Sl) → Heap → Prop) =>
   iteB (decide (s0.1 < n_1)) (
    new [Value.int .i64 s0.1] h0u3 fun a h0u4 =>
    appendS 1 8 s0.2.2 (⟨some a, 1, 1⟩ : Sl) h0u4 fun v_2 h0u5 =>
    K0 (IntKind.wrap .i64 (s0.1 + 1), s0.2.1, v_2) h0u5
   ) (
    Q (s0.2.1, s0.2.2) h0u3
   )
  ) (0, v, Sl.nil) h0u2

def queue_there (q : (Option Addr)) (v : Int) (h : Heap) (Q : Bool → Heap → Prop) : Prop :=
  seq (fun (K0 : Bool → Heap → Prop) =>
   iteB (decide (v ≥ 0)) (
    nilChk q fun a =>
    Lift.load Sl.toV (a.add 0) h fun v_1 =>
    K0 (decide (v < ((v_1.len : Nat) : Int))) h
   ) (
    K0 false h
   )
  ) (fun t0 h0 =>
   Q t0 h0
  )

def slices_Index_int_int (s0 : Sl) (v : Int) (h : Heap) (Q : Int → Heap → Prop) : Prop :=
  loop (fun (s0u1 : Int) h0 (K0 : Int → Heap → Prop) =>
   iteB (decide (s0u1 < ((s0.len : Nat) : Int))) (
    idxS s0 s0u1 1 fun a =>
    Lift.load (Value.int .i64) a h0 fun v_1 =>
    iteB (v == v_1) (
     Q s0u1 h0
    ) (
     K0 (IntKind.wrap .i64 (s0u1 + 1)) h0
    )
   ) (
    Q (-1) h0
   )
  ) 0 h

def queue_ranks_Len (r : (Option Addr)) (h : Heap) (Q : Int → Heap → Prop) : Prop :=
  mem h fun h0 =>
  nilChk r fun a =>
  Lift.load Sl.toV (a.add 1) h0 fun v =>
  Q ((v.len : Nat) : Int) h0

def queue_ranks_Less (r : (Option Addr)) (i : Int) (j : Int) (h : Heap) (Q : Bool → Heap → Prop) : Prop :=
  mem h fun h0 =>
  nilChk r fun a =>
  Lift.load Sl.toV (a.add 1) h0 fun v =>
  idxS v i 1 fun a_1 =>
  Lift.load (Value.int .i64) a_1 h0 fun v_1 =>
  nilChk r fun a_2 =>
  Lift.load Sl.toV (a_2.add 1) h0 fun v_2 =>
  idxS v_2 j 1 fun a_3 =>
  Lift.load (Value.int .i64) a_3 h0 fun v_3 =>
  nilChk r fun a_4 =>
  Lift.load Sl.toV (a_4.add 0) h0 fun v_4 =>
  idxS v_4 v_1 1 fun a_5 =>
  Lift.load (Value.int .i64) a_5 h0 fun v_5 =>
  nilChk r fun a_6 =>
  Lift.load Sl.toV (a_6.add 0) h0 fun v_6 =>
  idxS v_6 v_3 1 fun a_7 =>
  Lift.load (Value.int .i64) a_7 h0 fun v_7 =>
  iteB (v_5 != v_7) (
   Q (decide (v_5 > v_7)) h0
  ) (
   Q (decide (v_1 < v_3)) h0
  )

def queue_ranks_Swap (r : (Option Addr)) (i : Int) (j : Int) (h : Heap) (Q : Unit → Heap → Prop) : Prop :=
  mem h fun h0 =>
  nilChk r fun a =>
  Lift.load Sl.toV (a.add 1) h0 fun v =>
  nilChk r fun a_1 =>
  Lift.load Sl.toV (a_1.add 1) h0 fun v_1 =>
  nilChk r fun a_2 =>
  Lift.load Sl.toV (a_2.add 1) h0 fun v_2 =>
  idxS v_2 j 1 fun a_3 =>
  Lift.load (Value.int .i64) a_3 h0 fun v_3 =>
  nilChk r fun a_4 =>
  Lift.load Sl.toV (a_4.add 1) h0 fun v_4 =>
  idxS v_4 i 1 fun a_5 =>
  Lift.load (Value.int .i64) a_5 h0 fun v_5 =>
  idxS v i 1 fun a_6 =>
  Lift.store a_6 (Value.int .i64 v_3) h0 fun h0u1 =>
  idxS v_1 j 1 fun a_7 =>
  Lift.store a_7 (Value.int .i64 v_5) h0u1 fun h0u2 =>
  Q () h0u2

def container_heap_down__t88 (h0 : (Option Addr)) (i0 : Int) (n : Int) (h : Heap) (Q : Bool → Heap → Prop) : Prop :=
  seq (fun (K0 : Int → Heap → Prop) =>
   loop (fun (s0 : Int) h0u2 (K0u1 : Int → Heap → Prop) =>
    Let (IntKind.wrap .i64 ((IntKind.wrap .i64 (2 * s0)) + 1) : Int) fun j1 =>
    seq (fun (K0u2 : Bool → Heap → Prop) =>
     iteB (decide (j1 ≥ n)) (
      K0u2 true h0u2
     ) (
      K0u2 (decide (j1 < 0)) h0u2
     )
    ) (fun t0u1 h0u3 =>
     iteB t0u1 (
      K0 s0 h0u3
     ) (
      seq (fun (K0u3 : Int → Heap → Prop) =>
       Let (IntKind.wrap .i64 (j1 + 1) : Int) fun j2 =>
       seq (fun (K0u4 : Bool → Heap → Prop) =>
        iteB (decide (j2 < n)) (
         queue_ranks_Less h0 j2 j1 h0u3 fun v h0u6 =>
         K0u4 v h0u6
        ) (
         K0u4 false h0u3
        )
       ) (fun t0u3 h0u5 =>
        iteB t0u3 (
         K0u3 j2 h0u5
        ) (
         K0u3 j1 h0u5
        )
       )
      ) (fun t0u2 h0u4 =>
       queue_ranks_Less h0 t0u2 s0 h0u4 fun v_1 h0u7 =>
       iteB (!v_1) (
        K0 s0 h0u7
       ) (
        queue_ranks_Swap h0 s0 t0u2 h0u7 fun v_2 h0u8 =>
        K0u1 t0u2 h0u8
       )
      )
     )
    )
   ) i0 h
  ) (fun t0 h0u1 =>
   Q (decide (t0 > i0)) h0u1
  )

def container_heap_up__t88 (h0 : (Option Addr)) (j : Int) (h : Heap) (Q : Unit → Heap → Prop) : Prop :=
  loop (fun (s0 : Int) h0u1 (K0 : Int → Heap → Prop) =>
   Let (IntKind.wrap .i64 (Int.tdiv (IntKind.wrap .i64 (s0 - 1)) 2) : Int) fun i =>
   seq (fun (K0u1 : Bool → Heap → Prop) =>
    iteB (i == s0) (
     K0u1 true h0u1
    ) (
     queue_ranks_Less h0 s0 i h0u1 fun v h0u3 =>
     K0u1 (!v) h0u3
    )
   ) (fun t0 h0u2 =>
    iteB t0 (
     Q () h0u2
    ) (
     queue_ranks_Swap h0 i s0 h0u2 fun v_1 h0u4 =>
     K0 i h0u4
    )
   )
  ) j h

def container_heap_Fix__t88 (h0 : (Option Addr)) (i : Int) (h : Heap) (Q : Unit → Heap → Prop) : Prop :=
  queue_ranks_Len h0 h fun v h0u1 =>
  container_heap_down__t88 h0 i v h0u1 fun v_1 h0u2 =>
  iteB (!v_1) (
   container_heap_up__t88 h0 i h0u2 fun v_2 h0u3 =>
   Q () h0u3
  ) (
   Q () h0u2
  )

def queue_Bump (q : (Option Addr)) (v : Int) (by0 : Int) (h : Heap) (Q : Int → Heap → Prop) : Prop :=
  queue_there q v h fun v_1 h0 =>
  iteB (!v_1) (
   Q 2 h0
  ) (
   iteB (decide (by0 < 0)) (
    Q 1 h0
   ) (
    nilChk q fun a =>
    Lift.load Sl.toV (a.add 0) h0 fun v_2 =>
    idxS v_2 v 1 fun a_1 =>
    Lift.load (Value.int .i64) a_1 h0 fun v_3 =>
    iteB (decide (by0 > (IntKind.wrap .i64 (1152921504606846976 - v_3)))) (
     Q 6 h0
    ) (
     nilChk q fun a_2 =>
     Lift.load Sl.toV (a_2.add 0) h0 fun v_4 =>
     idxS v_4 v 1 fun a_3 =>
     Lift.load (Value.int .i64) a_3 h0 fun v_5 =>
     idxS v_4 v 1 fun a_4 =>
     Lift.store a_4 (Value.int .i64 (IntKind.wrap .i64 (v_5 + by0))) h0 fun h0u1 =>
     seq (fun (K0 : Unit → Heap → Prop) =>
      nilChk q fun a_5 =>
      Lift.load Sl.toV (a_5.add 1) h0u1 fun v_6 =>
      slices_Index_int_int v_6 v h0u1 fun v_7 h0u3 =>
      iteB (decide (v_7 ≥ 0)) (
       container_heap_Fix__t88 q v_7 h0u3 fun v_8 h0u4 =>
       K0 () h0u4
      ) (
       K0 () h0u3
      )
     ) (fun t0 h0u2 =>
      Q 0 h0u2
     )
    )
   )
  )

def queue_ranks_Pop (r : (Option Addr)) (h : Heap) (Q : Int → Heap → Prop) : Prop :=
  mem h fun h0 =>
  nilChk r fun a =>
  Lift.load Sl.toV (a.add 1) h0 fun v =>
  Let (IntKind.wrap .i64 (((v.len : Nat) : Int) - 1) : Int) fun last =>
  nilChk r fun a_1 =>
  Lift.load Sl.toV (a_1.add 1) h0 fun v_1 =>
  idxS v_1 last 1 fun a_2 =>
  Lift.load (Value.int .i64) a_2 h0 fun v_2 =>
  nilChk r fun a_3 =>
  Lift.load Sl.toV (a_3.add 1) h0 fun v_3 =>
  sliceOf v_3 none (some last) none 1 fun v_4 =>
  nilChk r fun a_4 =>
  Lift.store (a_4.add 1) (Sl.toV v_4) h0 fun h0u1 =>
  Q v_2 h0u1

def container_heap_Pop__t88 (h0 : (Option Addr)) (h : Heap) (Q : Int → Heap → Prop) : Prop :=
  queue_ranks_Len h0 h fun v h0u1 =>
  Let (IntKind.wrap .i64 (v - 1) : Int) fun n =>
  queue_ranks_Swap h0 0 n h0u1 fun v_1 h0u2 =>
  container_heap_down__t88 h0 0 n h0u2 fun v_2 h0u3 =>
  queue_ranks_Pop h0 h0u3 fun v_3 h0u4 =>
  Q v_3 h0u4

def queue_Pop (q : (Option Addr)) (h : Heap) (Q : (Int × Bool) → Heap → Prop) : Prop :=
  nilChk q fun a =>
  Lift.load Sl.toV (a.add 1) h fun v =>
  iteB (((v.len : Nat) : Int) == 0) (
   Q (0, false) h
  ) (
   container_heap_Pop__t88 q h fun v_1 h0 =>
   Q (v_1, true) h0
  )

def slices_Contains_int_int (s0 : Sl) (v : Int) (h : Heap) (Q : Bool → Heap → Prop) : Prop :=
  slices_Index_int_int s0 v h fun v_1 h0 =>
  Q (decide (v_1 ≥ 0)) h0

def queue_Has (q : Sl × Sl) (v : Int) (h : Heap) (Q : Bool → Heap → Prop) : Prop :=
  mem h fun h0 =>
  slices_Contains_int_int q.2 v h0 fun v_1 h0u1 =>
  Q v_1 h0u1

def law17uspeaks (h : Heap) (Q : Bool → Heap → Prop) : Prop :=
  queue_New 3 h fun v h0 =>
  new [Sl.toV Sl.nil, Sl.toV Sl.nil] h0 fun q h0u1 =>
  storeS q [Sl.toV v.1, Sl.toV v.2] h0u1 fun h0u2 =>
  queue_Bump (some q) 2 1 h0u2 fun v_1 h0u3 =>
  queue_Pop (some q) h0u3 fun v_2 h0u4 =>
  seq (fun (K0 : Bool → Heap → Prop) =>
   iteB (v_1 == 0) (
    iteB v_2.2 (
     iteB (v_2.1 == 2) (
      loadS C_sl_sl 2 q h0u4 fun v_3 =>
      queue_Has (v_3.1, v_3.2) 2 h0u4 fun v_4 h0u6 =>
      iteB (!v_4) (
       loadS C_sl_sl 2 q h0u6 fun v_5 =>
       queue_Has (v_5.1, v_5.2) 0 h0u6 fun v_6 h0u7 =>
       K0 v_6 h0u7
      ) (
       K0 false h0u6
      )
     ) (
      K0 false h0u4
     )
    ) (
     K0 false h0u4
    )
   ) (
    K0 false h0u4
   )
  ) (fun t0 h0u5 =>
   Q t0 h0u5
  )

def law17uQueueSorts (scores : Sl) (h : Heap) (Q : Bool → Heap → Prop) : Prop :=
  law17uspeaks h fun v h0 =>
  iteB (!v) (
   Q false h0
  ) (
   iteB (decide (((scores.len : Nat) : Int) > 60)) (
    Q true h0
   ) (
    queue_New ((scores.len : Nat) : Int) h0 fun v_1 h0u1 =>
    new [Sl.toV Sl.nil, Sl.toV Sl.nil] h0u1 fun q h0u2 =>
    storeS q [Sl.toV v_1.1, Sl.toV v_1.2] h0u2 fun h0u3 =>
    loop (fun (s0 : Int) h0u4 (K0 : Int → Heap → Prop) =>
     iteB (decide (s0 < ((scores.len : Nat) : Int))) (
      idxS scores s0 1 fun a =>
      Lift.load (Value.int .i64) a h0u4 fun v_2 =>
      queue_Bump (some q) s0 (IntKind.wrap .i64 (((BitVec.ofInt (IntKind.bits .i64) v_2 &&& BitVec.ofInt (IntKind.bits .i64) 255).toNat : Int))) h0u4 fun v_3 h0u5 =>
      iteB (v_3 != 0) (
       Q false h0u5
      ) (
       K0 (IntKind.wrap .i64 (s0 + 1)) h0u5
      )
     ) (
      loop (fun (s0u1 : Int × Int) h0u6 (K0u1 : (Int × Int) → Heap → Prop) =>
       iteB (decide (s0u1.2 < ((scores.len : Nat) : Int))) (
        queue_Pop (some q) h0u6 fun v_4 h0u7 =>
        seq (fun (K0u2 : Bool → Heap → Prop) =>
         iteB (!v_4.2) (
          K0u2 true h0u7
         ) (
          iteB (decide (v_4.1 < 0)) (
           K0u2 true h0u7
          ) (
           iteB (decide (v_4.1 ≥ ((scores.len : Nat) : Int))) (
            K0u2 true h0u7
           ) (
            iteB (decide (s0u1.1 ≥ 0)) (
             idxS scores v_4.1 1 fun a_1 =>
             Lift.load (Value.int .i64) a_1 h0u7 fun v_5 =>
             idxS scores s0u1.1 1 fun a_2 =>
             Lift.load (Value.int .i64) a_2 h0u7 fun v_6 =>
             iteB (decide ((IntKind.wrap .i64 (((BitVec.ofInt (IntKind.bits .i64) v_5 &&& BitVec.ofInt (IntKind.bits .i64) 255).toNat : Int))) > (IntKind.wrap .i64 (((BitVec.ofInt (IntKind.bits .i64) v_6 &&& BitVec.ofInt (IntKind.bits .i64) 255).toNat : Int))))) (
              K0u2 true h0u7
             ) (
              idxS scores v_4.1 1 fun a_3 =>
              Lift.load (Value.int .i64) a_3 h0u7 fun v_7 =>
              idxS scores s0u1.1 1 fun a_4 =>
              Lift.load (Value.int .i64) a_4 h0u7 fun v_8 =>
              iteB ((IntKind.wrap .i64 (((BitVec.ofInt (IntKind.bits .i64) v_7 &&& BitVec.ofInt (IntKind.bits .i64) 255).toNat : Int))) == (IntKind.wrap .i64 (((BitVec.ofInt (IntKind.bits .i64) v_8 &&& BitVec.ofInt (IntKind.bits .i64) 255).toNat : Int)))) (
               K0u2 (decide (v_4.1 ≤ s0u1.1)) h0u7
              ) (
               K0u2 false h0u7
              )
             )
            ) (
             K0u2 false h0u7
            )
           )
          )
         )
        ) (fun t0 h0u8 =>
         iteB t0 (
          Q false h0u8
         ) (
          K0u1 (v_4.1, IntKind.wrap .i64 (s0u1.2 + 1)) h0u8
         )
        )
       ) (
        queue_Pop (some q) h0u6 fun v_9 h0u9 =>
        seq (fun (K0u3 : Bool → Heap → Prop) =>
         iteB (!v_9.2) (
          Lift.load Sl.toV (q.add 1) h0u9 fun v_10 =>
          K0u3 (((v_10.len : Nat) : Int) == 0) h0u9
         ) (
          K0u3 false h0u9
         )
        ) (fun t0u1 h0u10 =>
         Q t0u1 h0u10
        )
       )
      ) ((-1), 0) h0u4
     )
    ) 0 h0u3
   )
  )

def ref17uNew (n : Int) (h : Heap) (Q : ((Option Addr)) → Heap → Prop) : Prop :=
  seq (fun (K0 : Int → Heap → Prop) =>
   iteB (decide (n < 0)) (
    K0 0 h
   ) (
    K0 n h
   )
  ) (fun t0 h0 =>
   seq (fun (K0u1 : (Option Addr) → Heap → Prop) =>
    (
     mkS [Value.int .i64 0] 8 t0 t0 h0 fun v h0u2 =>
     mkS [Value.bool false] 1 t0 t0 h0u2 fun v_1 h0u3 =>
     new [Sl.toV v, Sl.toV v_1] h0u3 fun a h0u4 =>
     K0u1 (some a) h0u4
    ) ∧ (
     mkS [Value.bool false] 1 t0 t0 h0 fun v_2 h0u5 =>
     mkS [Value.int .i64 0] 8 t0 t0 h0u5 fun v_3 h0u6 =>
     new [Sl.toV v_3, Sl.toV v_2] h0u6 fun a_1 h0u7 =>
     K0u1 (some a_1) h0u7
    )
   ) (fun t0u1 h0u1 =>
    loop (fun (s0 : Int) h0u8 (K0u2 : Int → Heap → Prop) =>
     iteB (decide (s0 < t0)) (
      nilChk t0u1 fun a_2 =>
      Lift.load Sl.toV (a_2.add 1) h0u8 fun v_4 =>
      idxS v_4 s0 1 fun a_3 =>
      Lift.store a_3 (Value.bool true) h0u8 fun h0u9 =>
      Let (IntKind.wrap .i64 (s0 + 1) : Int) fun i =>
      K0u2 i h0u9
     ) (
      Q t0u1 h0u8
     )
    ) 0 h0u1
   )
  )

def queue_ranks_Push__t3 (r : (Option Addr)) (v : Int) (h : Heap) (Q : Unit → Heap → Prop) : Prop :=
  mem h fun h0 =>
  nilChk r fun a =>
  Lift.load Sl.toV (a.add 1) h0 fun v_1 =>
  new [Value.int .i64 v] h0 fun a_1 h0u1 =>
  (cell? h0u1 (a.add 1) = some (Sl.toV v_1)) ∧
  appendS 1 8 v_1 (⟨some a_1, 1, 1⟩ : Sl) h0u1 fun v_3 h0u2 =>
  nilChk r fun a_2 =>
  Lift.store (a_2.add 1) (Sl.toV v_3) h0u2 fun h0u3 =>
  Q () h0u3

def container_heap_Push__t88u_t3 (h0 : (Option Addr)) (x0 : Int) (h : Heap) (Q : Unit → Heap → Prop) : Prop :=
  queue_ranks_Push__t3 h0 x0 h fun v h0u1 =>
  queue_ranks_Len h0 h0u1 fun v_1 h0u2 =>
  container_heap_up__t88 h0 (IntKind.wrap .i64 (v_1 - 1)) h0u2 fun v_2 h0u3 =>
  Q () h0u3

def queue_Push (q : (Option Addr)) (v : Int) (h : Heap) (Q : Int → Heap → Prop) : Prop :=
  queue_there q v h fun v_1 h0 =>
  iteB (!v_1) (
   Q 2 h0
  ) (
   seq (fun (K0 : Unit → Heap → Prop) =>
    nilChk q fun a =>
    loadS C_sl_sl 2 a h0 fun v_2 =>
    queue_Has (v_2.1, v_2.2) v h0 fun v_3 h0u2 =>
    iteB (!v_3) (
     container_heap_Push__t88u_t3 q v h0u2 fun v_4 h0u3 =>
     K0 () h0u3
    ) (
     K0 () h0u2
    )
   ) (fun t0 h0u1 =>
    Q 0 h0u1
   )
  )

def ref17uQueue_First (q : (Option Addr)) (h : Heap) (Q : Int → Heap → Prop) : Prop :=
  loop (fun (s0 : Int × Int) h0 (K0 : (Int × Int) → Heap → Prop) =>
   nilChk q fun a =>
   Lift.load Sl.toV (a.add 1) h0 fun v =>
   iteB (decide (s0.2 < ((v.len : Nat) : Int))) (
    seq (fun (K0u1 : Int → Heap → Prop) =>
     seq (fun (K0u2 : Bool → Heap → Prop) =>
      nilChk q fun a_1 =>
      Lift.load Sl.toV (a_1.add 1) h0 fun v_1 =>
      idxS v_1 s0.2 1 fun a_2 =>
      Lift.load Value.bool a_2 h0 fun v_2 =>
      iteB v_2 (
       iteB (decide (s0.1 < 0)) (
        K0u2 true h0
       ) (
        nilChk q fun a_3 =>
        Lift.load Sl.toV (a_3.add 0) h0 fun v_3 =>
        idxS v_3 s0.2 1 fun a_4 =>
        Lift.load (Value.int .i64) a_4 h0 fun v_4 =>
        nilChk q fun a_5 =>
        Lift.load Sl.toV (a_5.add 0) h0 fun v_5 =>
        idxS v_5 s0.1 1 fun a_6 =>
        Lift.load (Value.int .i64) a_6 h0 fun v_6 =>
        K0u2 (decide (v_4 > v_6)) h0
       )
      ) (
       K0u2 false h0
      )
     ) (fun t0u1 h0u2 =>
      iteB t0u1 (
       K0u1 s0.2 h0u2
      ) (
       K0u1 s0.1 h0u2
      )
     )
    ) (fun t0 h0u1 =>
     Let (IntKind.wrap .i64 (s0.2 + 1) : Int) fun v_7 =>
     K0 (t0, v_7) h0u1
    )
   ) (
    Q s0.1 h0
   )
  ) ((-1), 0) h

def ref17uQueue_Bump (q : (Option Addr)) (v : Int) (by0 : Int) (h : Heap) (Q : Int → Heap → Prop) : Prop :=
  seq (fun (K0 : Bool → Heap → Prop) =>
   iteB (decide (v < 0)) (
    K0 true h
   ) (
    nilChk q fun a =>
    Lift.load Sl.toV (a.add 0) h fun v_1 =>
    K0 (decide (v ≥ ((v_1.len : Nat) : Int))) h
   )
  ) (fun t0 h0 =>
   iteB t0 (
    Q 2 h0
   ) (
    iteB (decide (by0 < 0)) (
     Q 1 h0
    ) (
     nilChk q fun a_1 =>
     Lift.load Sl.toV (a_1.add 0) h0 fun v_2 =>
     idxS v_2 v 1 fun a_2 =>
     Lift.load (Value.int .i64) a_2 h0 fun v_3 =>
     iteB (decide (by0 > (IntKind.wrap .i64 (1152921504606846976 - v_3)))) (
      Q 6 h0
     ) (
      nilChk q fun a_3 =>
      Lift.load Sl.toV (a_3.add 0) h0 fun v_4 =>
      idxS v_4 v 1 fun a_4 =>
      Lift.load (Value.int .i64) a_4 h0 fun v_5 =>
      idxS v_4 v 1 fun a_5 =>
      Lift.store a_5 (Value.int .i64 (IntKind.wrap .i64 (v_5 + by0))) h0 fun h0u1 =>
      Q 0 h0u1
     )
    )
   )
  )

def container_heap_Init__t88 (h0 : (Option Addr)) (h : Heap) (Q : Unit → Heap → Prop) : Prop :=
  queue_ranks_Len h0 h fun v h0u1 =>
  Let (IntKind.wrap .i64 ((IntKind.wrap .i64 (Int.tdiv v 2)) - 1) : Int) fun i =>
  loop (fun (s0 : Int) h0u2 (K0 : Int → Heap → Prop) =>
   iteB (decide (s0 ≥ 0)) (
    container_heap_down__t88 h0 s0 v h0u2 fun v_1 h0u3 =>
    Let (IntKind.wrap .i64 (s0 - 1) : Int) fun i_1 =>
    K0 i_1 h0u3
   ) (
    Q () h0u2
   )
  ) i h0u1

def queue_Halve (q : (Option Addr)) (h : Heap) (Q : Unit → Heap → Prop) : Prop :=
  nilChk q fun a =>
  Lift.load Sl.toV (a.add 0) h fun v =>
  loop (fun (s0 : Int) h0 (K0 : Int → Heap → Prop) =>
   iteB (decide (s0 < ((v.len : Nat) : Int))) (
    nilChk q fun a_1 =>
    Lift.load Sl.toV (a_1.add 0) h0 fun v_1 =>
    idxS v_1 s0 1 fun a_2 =>
    Lift.load (Value.int .i64) a_2 h0 fun v_2 =>
    idxS v_1 s0 1 fun a_3 =>
    Lift.store a_3 (Value.int .i64 (IntKind.wrap .i64 (Int.tdiv v_2 2))) h0 fun h0u1 =>
    K0 (IntKind.wrap .i64 (s0 + 1)) h0u1
   ) (
    container_heap_Init__t88 q h0 fun v_3 h0u2 =>
    Q () h0u2
   )
  ) 0 h

def queue_Right_c1 (n : Int) (h : Heap) (Q : Bool → Heap → Prop) : Prop :=
  seq (fun (K0 : Bool → Heap → Prop) =>
   iteB (decide (n < 0)) (
    K0 true h
   ) (
    K0 (decide (n > 1152921504606846976)) h
   )
  ) (fun t0 h0 =>
   Q t0 h0
  )

def slices_IndexFunc_int_int__queue_Right_c1 (s0 : Sl) (h : Heap) (Q : Int → Heap → Prop) : Prop :=
  loop (fun (s0u1 : Int) h0 (K0 : Int → Heap → Prop) =>
   iteB (decide (s0u1 < ((s0.len : Nat) : Int))) (
    idxS s0 s0u1 1 fun a =>
    Lift.load (Value.int .i64) a h0 fun v =>
    queue_Right_c1 v h0 fun v_1 h0u1 =>
    iteB v_1 (
     Q s0u1 h0u1
    ) (
     K0 (IntKind.wrap .i64 (s0u1 + 1)) h0u1
    )
   ) (
    Q (-1) h0
   )
  ) 0 h

def slices_ContainsFunc_int_int__queue_Right_c1 (s0 : Sl) (h : Heap) (Q : Bool → Heap → Prop) : Prop :=
  slices_IndexFunc_int_int__queue_Right_c1 s0 h fun v h0 =>
  Q (decide (v ≥ 0)) h0

def queue_Right (q : Sl × Sl) (h : Heap) (Q : Bool → Heap → Prop) : Prop :=
  new [Sl.toV q.1, Sl.toV q.2] h fun q_1 h0 =>
  newM h0 fun v h0u1 =>
  Lift.load Sl.toV (q_1.add 1) h0u1 fun v_1 =>
  loop (fun (s0 : Int) h0u2 (K0 : Int → Heap → Prop) =>
   iteB (decide (s0 < ((v_1.len : Nat) : Int))) (
    idxS v_1 s0 1 fun a =>
    Lift.load (Value.int .i64) a h0u2 fun v_2 =>
    seq (fun (K0u1 : Bool → Heap → Prop) =>
     queue_there (some q_1) v_2 h0u2 fun v_3 h0u4 =>
     iteB (!v_3) (
      K0u1 true h0u4
     ) (
      lookM .i64 Value.bool false v v_2 h0u4 fun v_4 =>
      iteB v_4.1 (
       K0u1 true h0u4
      ) (
       iteB (decide (s0 > 0)) (
        queue_ranks_Less (some q_1) (IntKind.wrap .i64 (Int.tdiv (IntKind.wrap .i64 (s0 - 1)) 2)) s0 h0u4 fun v_5 h0u5 =>
        K0u1 (!v_5) h0u5
       ) (
        K0u1 false h0u4
       )
      )
     )
    ) (fun t0 h0u3 =>
     iteB t0 (
      Q false h0u3
     ) (
      setM .i64 Value.bool v v_2 true h0u3 fun h0u6 =>
      K0 (IntKind.wrap .i64 (s0 + 1)) h0u6
     )
    )
   ) (
    Lift.load Sl.toV (q_1.add 0) h0u2 fun v_6 =>
    slices_ContainsFunc_int_int__queue_Right_c1 v_6 h0u2 fun v_7 h0u7 =>
    Q (!v_7) h0u7
   )
  ) 0 h0u1

def ref17uRight (q : Sl × Sl) (h : Heap) (Q : Bool → Heap → Prop) : Prop :=
  mem h fun h0 =>
  loop (fun (s0 : Int) h0u1 (K0 : Int → Heap → Prop) =>
   iteB (decide (s0 < ((q.1.len : Nat) : Int))) (
    seq (fun (K0u1 : Bool → Heap → Prop) =>
     idxS q.1 s0 1 fun a =>
     Lift.load (Value.int .i64) a h0u1 fun v =>
     iteB (decide (v < 0)) (
      K0u1 true h0u1
     ) (
      idxS q.1 s0 1 fun a_1 =>
      Lift.load (Value.int .i64) a_1 h0u1 fun v_1 =>
      K0u1 (decide (v_1 > 1152921504606846976)) h0u1
     )
    ) (fun t0 h0u2 =>
     iteB t0 (
      Q false h0u2
     ) (
      Let (IntKind.wrap .i64 (s0 + 1) : Int) fun i =>
      K0 i h0u2
     )
    )
   ) (
    loop (fun (s0u1 : Int) h0u3 (K0u2 : Int → Heap → Prop) =>
     iteB (decide (s0u1 < ((q.2.len : Nat) : Int))) (
      seq (fun (K0u3 : Unit → Heap → Prop) =>
       idxS q.2 s0u1 1 fun a_2 =>
       Lift.load (Value.int .i64) a_2 h0u3 fun v_2 =>
       seq (fun (K0u4 : Bool → Heap → Prop) =>
        iteB (decide (v_2 < 0)) (
         K0u4 true h0u3
        ) (
         K0u4 (decide (v_2 ≥ ((q.1.len : Nat) : Int))) h0u3
        )
       ) (fun t0u2 h0u5 =>
        iteB t0u2 (
         Q false h0u5
        ) (
         loop (fun (s0u2 : Int) h0u6 (K0u5 : Int → Heap → Prop) =>
          iteB (decide (s0u2 < s0u1)) (
           idxS q.2 s0u2 1 fun a_3 =>
           Lift.load (Value.int .i64) a_3 h0u6 fun v_3 =>
           iteB (v_3 == v_2) (
            Q false h0u6
           ) (
            Let (IntKind.wrap .i64 (s0u2 + 1) : Int) fun k =>
            K0u5 k h0u6
           )
          ) (
           iteB (decide (s0u1 > 0)) (
            idxS q.2 (IntKind.wrap .i64 (Int.tdiv (IntKind.wrap .i64 (s0u1 - 1)) 2)) 1 fun a_4 =>
            Lift.load (Value.int .i64) a_4 h0u6 fun v_4 =>
            seq (fun (K0u6 : Bool → Heap → Prop) =>
             idxS q.1 v_4 1 fun a_5 =>
             Lift.load (Value.int .i64) a_5 h0u6 fun v_5 =>
             idxS q.1 v_2 1 fun a_6 =>
             Lift.load (Value.int .i64) a_6 h0u6 fun v_6 =>
             iteB (decide (v_5 < v_6)) (
              K0u6 true h0u6
             ) (
              idxS q.1 v_4 1 fun a_7 =>
              Lift.load (Value.int .i64) a_7 h0u6 fun v_7 =>
              idxS q.1 v_2 1 fun a_8 =>
              Lift.load (Value.int .i64) a_8 h0u6 fun v_8 =>
              iteB (v_7 == v_8) (
               K0u6 (decide (v_4 > v_2)) h0u6
              ) (
               K0u6 false h0u6
              )
             )
            ) (fun t0u3 h0u7 =>
             iteB t0u3 (
              Q false h0u7
             ) (
              K0u3 () h0u7
             )
            )
           ) (
            K0u3 () h0u6
           )
          )
         ) 0 h0u5
        )
       )
      ) (fun t0u1 h0u4 =>
       Let (IntKind.wrap .i64 (s0u1 + 1) : Int) fun i_1 =>
       K0u2 i_1 h0u4
      )
     ) (
      Q true h0u3
     )
    ) 0 h0u1
   )
  ) 0 h0

def law17uQueueActs (n : Int) (acts : Sl) (h : Heap) (Q : Bool → Heap → Prop) : Prop :=
  law17uspeaks h fun v h0 =>
  iteB (!v) (
   Q false h0
  ) (
   seq (fun (K0 : Bool → Heap → Prop) =>
    iteB (decide (n > 60)) (
     K0 true h0
    ) (
     K0 (decide (((acts.len : Nat) : Int) > 200)) h0
    )
   ) (fun t0 h0u1 =>
    iteB t0 (
     Q true h0u1
    ) (
     queue_New n h0u1 fun v_1 h0u2 =>
     ref17uNew n h0u2 fun v_2 h0u3 =>
     new [Sl.toV Sl.nil, Sl.toV Sl.nil] h0u3 fun q h0u4 =>
     storeS q [Sl.toV v_1.1, Sl.toV v_1.2] h0u4 fun h0u5 =>
     loop (fun (s0 : Int) h0u6 (K0u1 : Int → Heap → Prop) =>
      iteB (decide (s0 < ((acts.len : Nat) : Int))) (
       idxS acts s0 3 fun a =>
       loadS C_i64ui64ui64 3 a h0u6 fun v_3 =>
       mem h0u6 fun h0u7 =>
       seq (fun (K0u2 : Bool → Heap → Prop) =>
        iteB (decide (v_3.2.1 ≥ 0)) (
         nilChk v_2 fun a_1 =>
         Lift.load Sl.toV (a_1.add 1) h0u7 fun v_4 =>
         Let (decide (v_3.2.1 < ((v_4.len : Nat) : Int)) : Bool) fun there =>
         K0u2 there h0u7
        ) (
         K0u2 false h0u7
        )
       ) (fun t0u1 h0u8 =>
        seq (fun (K0u3 : Unit → Heap → Prop) =>
         iteB (v_3.1 == 0) (
          queue_Push (some q) v_3.2.1 h0u8 fun v_5 h0u10 =>
          iteB (!((v_5 == 0) == t0u1)) (
           Q false h0u10
          ) (
           iteB t0u1 (
            nilChk v_2 fun a_2 =>
            Lift.load Sl.toV (a_2.add 1) h0u10 fun v_6 =>
            idxS v_6 v_3.2.1 1 fun a_3 =>
            Lift.store a_3 (Value.bool true) h0u10 fun h0u11 =>
            K0u3 () h0u11
           ) (
            K0u3 () h0u10
           )
          )
         ) (
          iteB (v_3.1 == 1) (
           queue_Pop (some q) h0u8 fun v_7 h0u12 =>
           ref17uQueue_First v_2 h0u12 fun v_8 h0u13 =>
           seq (fun (K0u4 : Bool → Heap → Prop) =>
            iteB (!(v_7.2 == (decide (v_8 ≥ 0)))) (
             K0u4 true h0u13
            ) (
             iteB v_7.2 (
              iteB (v_7.1 != v_8) (
               K0u4 true h0u13
              ) (
               iteB (!v_7.2) (
                K0u4 (v_7.1 != 0) h0u13
               ) (
                K0u4 false h0u13
               )
              )
             ) (
              iteB (!v_7.2) (
               K0u4 (v_7.1 != 0) h0u13
              ) (
               K0u4 false h0u13
              )
             )
            )
           ) (fun t0u3 h0u14 =>
            iteB t0u3 (
             Q false h0u14
            ) (
             iteB v_7.2 (
              nilChk v_2 fun a_4 =>
              Lift.load Sl.toV (a_4.add 1) h0u14 fun v_9 =>
              idxS v_9 v_7.1 1 fun a_5 =>
              Lift.store a_5 (Value.bool false) h0u14 fun h0u15 =>
              K0u3 () h0u15
             ) (
              K0u3 () h0u14
             )
            )
           )
          ) (
           iteB (v_3.1 == 2) (
            queue_Bump (some q) v_3.2.1 v_3.2.2 h0u8 fun v_10 h0u16 =>
            ref17uQueue_Bump v_2 v_3.2.1 v_3.2.2 h0u16 fun v_11 h0u17 =>
            iteB (v_10 != v_11) (
             Q false h0u17
            ) (
             K0u3 () h0u17
            )
           ) (
            queue_Halve (some q) h0u8 fun v_12 h0u18 =>
            nilChk v_2 fun a_6 =>
            Lift.load Sl.toV (a_6.add 0) h0u18 fun v_13 =>
            loop (fun (s0u1 : Int) h0u19 (K0u5 : Int → Heap → Prop) =>
             iteB (decide (s0u1 < ((v_13.len : Nat) : Int))) (
              nilChk v_2 fun a_7 =>
              Lift.load Sl.toV (a_7.add 0) h0u19 fun v_14 =>
              idxS v_14 s0u1 1 fun a_8 =>
              Lift.load (Value.int .i64) a_8 h0u19 fun v_15 =>
              idxS v_14 s0u1 1 fun a_9 =>
              Lift.store a_9 (Value.int .i64 (IntKind.wrap .i64 (Int.tdiv v_15 2))) h0u19 fun h0u20 =>
              K0u5 (IntKind.wrap .i64 (s0u1 + 1)) h0u20
             ) (
              K0u3 () h0u19
             )
            ) 0 h0u18
           )
          )
         )
        ) (fun t0u2 h0u9 =>
         seq (fun (K0u6 : Bool → Heap → Prop) =>
          loadS C_sl_sl 2 q h0u9 fun v_16 =>
          queue_Right (v_16.1, v_16.2) h0u9 fun v_17 h0u22 =>
          iteB (!v_17) (
           K0u6 true h0u22
          ) (
           loadS C_sl_sl 2 q h0u22 fun v_18 =>
           ref17uRight (v_18.1, v_18.2) h0u22 fun v_19 h0u23 =>
           iteB (!v_19) (
            K0u6 true h0u23
           ) (
            Lift.load Sl.toV (q.add 0) h0u23 fun v_20 =>
            nilChk v_2 fun a_10 =>
            Lift.load Sl.toV (a_10.add 0) h0u23 fun v_21 =>
            K0u6 (((v_20.len : Nat) : Int) != ((v_21.len : Nat) : Int)) h0u23
           )
          )
         ) (fun t0u4 h0u21 =>
          iteB t0u4 (
           Q false h0u21
          ) (
           nilChk v_2 fun a_11 =>
           Lift.load Sl.toV (a_11.add 1) h0u21 fun v_22 =>
           loop (fun (s0u2 : Int) h0u24 (K0u7 : Int → Heap → Prop) =>
            iteB (decide (s0u2 < ((v_22.len : Nat) : Int))) (
             idxS v_22 s0u2 1 fun a_12 =>
             Lift.load Value.bool a_12 h0u24 fun v_23 =>
             seq (fun (K0u8 : Bool → Heap → Prop) =>
              loadS C_sl_sl 2 q h0u24 fun v_24 =>
              queue_Has (v_24.1, v_24.2) s0u2 h0u24 fun v_25 h0u26 =>
              iteB (!(v_25 == v_23)) (
               K0u8 true h0u26
              ) (
               Lift.load Sl.toV (q.add 0) h0u26 fun v_26 =>
               idxS v_26 s0u2 1 fun a_13 =>
               Lift.load (Value.int .i64) a_13 h0u26 fun v_27 =>
               nilChk v_2 fun a_14 =>
               Lift.load Sl.toV (a_14.add 0) h0u26 fun v_28 =>
               idxS v_28 s0u2 1 fun a_15 =>
               Lift.load (Value.int .i64) a_15 h0u26 fun v_29 =>
               K0u8 (v_27 != v_29) h0u26
              )
             ) (fun t0u5 h0u25 =>
              iteB t0u5 (
               Q false h0u25
              ) (
               K0u7 (IntKind.wrap .i64 (s0u2 + 1)) h0u25
              )
             )
            ) (
             seq (fun (K0u9 : Bool → Heap → Prop) =>
              loadS C_sl_sl 2 q h0u24 fun v_30 =>
              queue_Has (v_30.1, v_30.2) (-1) h0u24 fun v_31 h0u28 =>
              iteB v_31 (
               K0u9 true h0u28
              ) (
               loadS C_sl_sl 2 q h0u28 fun v_32 =>
               nilChk v_2 fun a_16 =>
               Lift.load Sl.toV (a_16.add 1) h0u28 fun v_33 =>
               queue_Has (v_32.1, v_32.2) ((v_33.len : Nat) : Int) h0u28 fun v_34 h0u29 =>
               K0u9 v_34 h0u29
              )
             ) (fun t0u6 h0u27 =>
              iteB t0u6 (
               Q false h0u27
              ) (
               K0u1 (IntKind.wrap .i64 (s0 + 1)) h0u27
              )
             )
            )
           ) 0 h0u21
          )
         )
        )
       )
      ) (
       Q true h0u6
      )
     ) 0 h0u5
    )
   )
  )
end Go.Sh

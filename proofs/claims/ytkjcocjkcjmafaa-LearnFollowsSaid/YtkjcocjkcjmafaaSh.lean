/-
  Laws that the proof of this claim's statement leans on, each proved under the conditions that it states.
-/
import Derived.Test.YtkjcocjkcjmafaaFwD
import Derived.Test.YtkjcocjkcjmafaaFwC
set_option linter.unusedVariables false
set_option linter.unusedSimpArgs false
namespace Go.Sh
open Go Go.Lift
def C_sl_bool_i64 (x : Sl × Bool × Int) : List Value := [Sl.toV x.1, Value.bool x.2.1, Value.int .i64 x.2.2]
def C_sl_i64usl (x : Sl × Int × Sl) : List Value := [Sl.toV x.1, Value.int .i64 x.2.1, Sl.toV x.2.2]
def C_sl_sl_sl_sl_sl_sl_sl_i64 (x : Sl × Sl × Sl × Sl × Sl × Sl × Sl × Int) : List Value := [Sl.toV x.1, Sl.toV x.2.1, Sl.toV x.2.2.1, Sl.toV x.2.2.2.1, Sl.toV x.2.2.2.2.1, Sl.toV x.2.2.2.2.2.1, Sl.toV x.2.2.2.2.2.2.1, Value.int .i64 x.2.2.2.2.2.2.2]
def clause_New (bools : Int) (h : Heap) (Q : (Sl × Sl × Sl × Sl × Sl × Sl × Sl × Int) → Heap → Prop) : Prop :=
  mem h fun h0 =>
  Let ((if 0 > (if 1048576 < bools then 1048576 else bools) then 0 else (if 1048576 < bools then 1048576 else bools)) : Int) fun n =>
  seq (fun (K0 : (Sl × Sl × Sl × Sl × Sl × Sl × Sl × Int) → Heap → Prop) =>
   mem h0 fun h0u2 =>
   (
    mkS [Sl.toV Sl.nil] 24 (IntKind.wrap .i64 (2 * n)) (IntKind.wrap .i64 (2 * n)) h0u2 fun v_196 h0u395 =>
    mem h0u395 fun h0u396 =>
    (
     mkS [Value.int .i64 0] 8 n n h0u396 fun v_197 h0u397 =>
     mem h0u397 fun h0u398 =>
     (
      mkS [Value.int .i64 0] 8 n n h0u398 fun v_198 h0u399 =>
      mem h0u399 fun h0u400 =>
      mkS [Value.int .i64 0] 8 n n h0u400 fun v_199 h0u401 =>
      mem h0u401 fun h0u402 =>
      K0 (Sl.nil, v_196, v_197, v_198, v_199, Sl.nil, Sl.nil, 0) h0u402
     ) ∧ (
      mkS [Value.int .i64 0] 8 n n h0u398 fun v_200 h0u403 =>
      mem h0u403 fun h0u404 =>
      mkS [Value.int .i64 0] 8 n n h0u404 fun v_201 h0u405 =>
      mem h0u405 fun h0u406 =>
      K0 (Sl.nil, v_196, v_197, v_201, v_200, Sl.nil, Sl.nil, 0) h0u406
     )
    ) ∧ (
     mkS [Value.int .i64 0] 8 n n h0u396 fun v_202 h0u407 =>
     mem h0u407 fun h0u408 =>
     (
      mkS [Value.int .i64 0] 8 n n h0u408 fun v_203 h0u409 =>
      mem h0u409 fun h0u410 =>
      mkS [Value.int .i64 0] 8 n n h0u410 fun v_204 h0u411 =>
      mem h0u411 fun h0u412 =>
      K0 (Sl.nil, v_196, v_203, v_202, v_204, Sl.nil, Sl.nil, 0) h0u412
     ) ∧ (
      mkS [Value.int .i64 0] 8 n n h0u408 fun v_205 h0u413 =>
      mem h0u413 fun h0u414 =>
      mkS [Value.int .i64 0] 8 n n h0u414 fun v_206 h0u415 =>
      mem h0u415 fun h0u416 =>
      K0 (Sl.nil, v_196, v_206, v_202, v_205, Sl.nil, Sl.nil, 0) h0u416
     )
    ) ∧ (
     mkS [Value.int .i64 0] 8 n n h0u396 fun v_207 h0u417 =>
     mem h0u417 fun h0u418 =>
     (
      mkS [Value.int .i64 0] 8 n n h0u418 fun v_208 h0u419 =>
      mem h0u419 fun h0u420 =>
      mkS [Value.int .i64 0] 8 n n h0u420 fun v_209 h0u421 =>
      mem h0u421 fun h0u422 =>
      K0 (Sl.nil, v_196, v_208, v_209, v_207, Sl.nil, Sl.nil, 0) h0u422
     ) ∧ (
      mkS [Value.int .i64 0] 8 n n h0u418 fun v_210 h0u423 =>
      mem h0u423 fun h0u424 =>
      mkS [Value.int .i64 0] 8 n n h0u424 fun v_211 h0u425 =>
      mem h0u425 fun h0u426 =>
      K0 (Sl.nil, v_196, v_211, v_210, v_207, Sl.nil, Sl.nil, 0) h0u426
     )
    )
   ) ∧ (
    mkS [Value.int .i64 0] 8 n n h0u2 fun v_212 h0u427 =>
    mem h0u427 fun h0u428 =>
    (
     mkS [Sl.toV Sl.nil] 24 (IntKind.wrap .i64 (2 * n)) (IntKind.wrap .i64 (2 * n)) h0u428 fun v_213 h0u429 =>
     mem h0u429 fun h0u430 =>
     (
      mkS [Value.int .i64 0] 8 n n h0u430 fun v_214 h0u431 =>
      mem h0u431 fun h0u432 =>
      mkS [Value.int .i64 0] 8 n n h0u432 fun v_215 h0u433 =>
      mem h0u433 fun h0u434 =>
      K0 (Sl.nil, v_213, v_212, v_214, v_215, Sl.nil, Sl.nil, 0) h0u434
     ) ∧ (
      mkS [Value.int .i64 0] 8 n n h0u430 fun v_216 h0u435 =>
      mem h0u435 fun h0u436 =>
      mkS [Value.int .i64 0] 8 n n h0u436 fun v_217 h0u437 =>
      mem h0u437 fun h0u438 =>
      K0 (Sl.nil, v_213, v_212, v_217, v_216, Sl.nil, Sl.nil, 0) h0u438
     )
    ) ∧ (
     mkS [Value.int .i64 0] 8 n n h0u428 fun v_218 h0u439 =>
     mem h0u439 fun h0u440 =>
     (
      mkS [Sl.toV Sl.nil] 24 (IntKind.wrap .i64 (2 * n)) (IntKind.wrap .i64 (2 * n)) h0u440 fun v_219 h0u441 =>
      mem h0u441 fun h0u442 =>
      mkS [Value.int .i64 0] 8 n n h0u442 fun v_220 h0u443 =>
      mem h0u443 fun h0u444 =>
      K0 (Sl.nil, v_219, v_212, v_218, v_220, Sl.nil, Sl.nil, 0) h0u444
     ) ∧ (
      mkS [Value.int .i64 0] 8 n n h0u440 fun v_221 h0u445 =>
      mem h0u445 fun h0u446 =>
      mkS [Sl.toV Sl.nil] 24 (IntKind.wrap .i64 (2 * n)) (IntKind.wrap .i64 (2 * n)) h0u446 fun v_222 h0u447 =>
      mem h0u447 fun h0u448 =>
      K0 (Sl.nil, v_222, v_212, v_218, v_221, Sl.nil, Sl.nil, 0) h0u448
     )
    ) ∧ (
     mkS [Value.int .i64 0] 8 n n h0u428 fun v_223 h0u449 =>
     mem h0u449 fun h0u450 =>
     (
      mkS [Sl.toV Sl.nil] 24 (IntKind.wrap .i64 (2 * n)) (IntKind.wrap .i64 (2 * n)) h0u450 fun v_224 h0u451 =>
      mem h0u451 fun h0u452 =>
      mkS [Value.int .i64 0] 8 n n h0u452 fun v_225 h0u453 =>
      mem h0u453 fun h0u454 =>
      K0 (Sl.nil, v_224, v_212, v_225, v_223, Sl.nil, Sl.nil, 0) h0u454
     ) ∧ (
      mkS [Value.int .i64 0] 8 n n h0u450 fun v_226 h0u455 =>
      mem h0u455 fun h0u456 =>
      mkS [Sl.toV Sl.nil] 24 (IntKind.wrap .i64 (2 * n)) (IntKind.wrap .i64 (2 * n)) h0u456 fun v_227 h0u457 =>
      mem h0u457 fun h0u458 =>
      K0 (Sl.nil, v_227, v_212, v_226, v_223, Sl.nil, Sl.nil, 0) h0u458
     )
    )
   ) ∧ (
    mkS [Value.int .i64 0] 8 n n h0u2 fun v_228 h0u459 =>
    mem h0u459 fun h0u460 =>
    (
     mkS [Sl.toV Sl.nil] 24 (IntKind.wrap .i64 (2 * n)) (IntKind.wrap .i64 (2 * n)) h0u460 fun v_229 h0u461 =>
     mem h0u461 fun h0u462 =>
     (
      mkS [Value.int .i64 0] 8 n n h0u462 fun v_230 h0u463 =>
      mem h0u463 fun h0u464 =>
      mkS [Value.int .i64 0] 8 n n h0u464 fun v_231 h0u465 =>
      mem h0u465 fun h0u466 =>
      K0 (Sl.nil, v_229, v_230, v_228, v_231, Sl.nil, Sl.nil, 0) h0u466
     ) ∧ (
      mkS [Value.int .i64 0] 8 n n h0u462 fun v_232 h0u467 =>
      mem h0u467 fun h0u468 =>
      mkS [Value.int .i64 0] 8 n n h0u468 fun v_233 h0u469 =>
      mem h0u469 fun h0u470 =>
      K0 (Sl.nil, v_229, v_233, v_228, v_232, Sl.nil, Sl.nil, 0) h0u470
     )
    ) ∧ (
     mkS [Value.int .i64 0] 8 n n h0u460 fun v_234 h0u471 =>
     mem h0u471 fun h0u472 =>
     (
      mkS [Sl.toV Sl.nil] 24 (IntKind.wrap .i64 (2 * n)) (IntKind.wrap .i64 (2 * n)) h0u472 fun v_235 h0u473 =>
      mem h0u473 fun h0u474 =>
      mkS [Value.int .i64 0] 8 n n h0u474 fun v_236 h0u475 =>
      mem h0u475 fun h0u476 =>
      K0 (Sl.nil, v_235, v_234, v_228, v_236, Sl.nil, Sl.nil, 0) h0u476
     ) ∧ (
      mkS [Value.int .i64 0] 8 n n h0u472 fun v_237 h0u477 =>
      mem h0u477 fun h0u478 =>
      mkS [Sl.toV Sl.nil] 24 (IntKind.wrap .i64 (2 * n)) (IntKind.wrap .i64 (2 * n)) h0u478 fun v_238 h0u479 =>
      mem h0u479 fun h0u480 =>
      K0 (Sl.nil, v_238, v_234, v_228, v_237, Sl.nil, Sl.nil, 0) h0u480
     )
    ) ∧ (
     mkS [Value.int .i64 0] 8 n n h0u460 fun v_239 h0u481 =>
     mem h0u481 fun h0u482 =>
     (
      mkS [Sl.toV Sl.nil] 24 (IntKind.wrap .i64 (2 * n)) (IntKind.wrap .i64 (2 * n)) h0u482 fun v_240 h0u483 =>
      mem h0u483 fun h0u484 =>
      mkS [Value.int .i64 0] 8 n n h0u484 fun v_241 h0u485 =>
      mem h0u485 fun h0u486 =>
      K0 (Sl.nil, v_240, v_241, v_228, v_239, Sl.nil, Sl.nil, 0) h0u486
     ) ∧ (
      mkS [Value.int .i64 0] 8 n n h0u482 fun v_242 h0u487 =>
      mem h0u487 fun h0u488 =>
      mkS [Sl.toV Sl.nil] 24 (IntKind.wrap .i64 (2 * n)) (IntKind.wrap .i64 (2 * n)) h0u488 fun v_243 h0u489 =>
      mem h0u489 fun h0u490 =>
      K0 (Sl.nil, v_243, v_242, v_228, v_239, Sl.nil, Sl.nil, 0) h0u490
     )
    )
   ) ∧ (
    mkS [Value.int .i64 0] 8 n n h0u2 fun v_244 h0u491 =>
    mem h0u491 fun h0u492 =>
    (
     mkS [Sl.toV Sl.nil] 24 (IntKind.wrap .i64 (2 * n)) (IntKind.wrap .i64 (2 * n)) h0u492 fun v_245 h0u493 =>
     mem h0u493 fun h0u494 =>
     (
      mkS [Value.int .i64 0] 8 n n h0u494 fun v_246 h0u495 =>
      mem h0u495 fun h0u496 =>
      mkS [Value.int .i64 0] 8 n n h0u496 fun v_247 h0u497 =>
      mem h0u497 fun h0u498 =>
      K0 (Sl.nil, v_245, v_246, v_247, v_244, Sl.nil, Sl.nil, 0) h0u498
     ) ∧ (
      mkS [Value.int .i64 0] 8 n n h0u494 fun v_248 h0u499 =>
      mem h0u499 fun h0u500 =>
      mkS [Value.int .i64 0] 8 n n h0u500 fun v_249 h0u501 =>
      mem h0u501 fun h0u502 =>
      K0 (Sl.nil, v_245, v_249, v_248, v_244, Sl.nil, Sl.nil, 0) h0u502
     )
    ) ∧ (
     mkS [Value.int .i64 0] 8 n n h0u492 fun v_250 h0u503 =>
     mem h0u503 fun h0u504 =>
     (
      mkS [Sl.toV Sl.nil] 24 (IntKind.wrap .i64 (2 * n)) (IntKind.wrap .i64 (2 * n)) h0u504 fun v_251 h0u505 =>
      mem h0u505 fun h0u506 =>
      mkS [Value.int .i64 0] 8 n n h0u506 fun v_252 h0u507 =>
      mem h0u507 fun h0u508 =>
      K0 (Sl.nil, v_251, v_250, v_252, v_244, Sl.nil, Sl.nil, 0) h0u508
     ) ∧ (
      mkS [Value.int .i64 0] 8 n n h0u504 fun v_253 h0u509 =>
      mem h0u509 fun h0u510 =>
      mkS [Sl.toV Sl.nil] 24 (IntKind.wrap .i64 (2 * n)) (IntKind.wrap .i64 (2 * n)) h0u510 fun v_254 h0u511 =>
      mem h0u511 fun h0u512 =>
      K0 (Sl.nil, v_254, v_250, v_253, v_244, Sl.nil, Sl.nil, 0) h0u512
     )
    ) ∧ (
     mkS [Value.int .i64 0] 8 n n h0u492 fun v_255 h0u513 =>
     mem h0u513 fun h0u514 =>
     (
      mkS [Sl.toV Sl.nil] 24 (IntKind.wrap .i64 (2 * n)) (IntKind.wrap .i64 (2 * n)) h0u514 fun v_256 h0u515 =>
      mem h0u515 fun h0u516 =>
      mkS [Value.int .i64 0] 8 n n h0u516 fun v_257 h0u517 =>
      mem h0u517 fun h0u518 =>
      K0 (Sl.nil, v_256, v_257, v_255, v_244, Sl.nil, Sl.nil, 0) h0u518
     ) ∧ (
      mkS [Value.int .i64 0] 8 n n h0u514 fun v_258 h0u519 =>
      mem h0u519 fun h0u520 =>
      mkS [Sl.toV Sl.nil] 24 (IntKind.wrap .i64 (2 * n)) (IntKind.wrap .i64 (2 * n)) h0u520 fun v_259 h0u521 =>
      mem h0u521 fun h0u522 =>
      K0 (Sl.nil, v_259, v_258, v_255, v_244, Sl.nil, Sl.nil, 0) h0u522
     )
    )
   )
  ) (fun t0 h0u1 =>
   loop (fun (s0 : Int) h0u523 (K0u1 : Int → Heap → Prop) =>
    iteB (decide (s0 < ((t0.2.2.2.2.1.len : Nat) : Int))) (
     idxS t0.2.2.2.2.1 s0 1 fun a =>
     Lift.store a (Value.int .i64 (-1)) h0u523 fun h0u524 =>
     K0u1 (IntKind.wrap .i64 (s0 + 1)) h0u524
    ) (
     Q (t0.1, t0.2.1, t0.2.2.1, t0.2.2.2.1, t0.2.2.2.2.1, t0.2.2.2.2.2.1, t0.2.2.2.2.2.2.1, t0.2.2.2.2.2.2.2) h0u523
    )
   ) 0 h0u1
  )
def clause_there (s0 : (Option Addr)) (lit : Int) (h : Heap) (Q : Bool → Heap → Prop) : Prop :=
  seq (fun (K0 : Bool → Heap → Prop) =>
   iteB (lit != 0) (
    nilChk s0 fun a =>
    Lift.load Sl.toV (a.add 2) h fun v =>
    iteB (decide (lit ≤ ((v.len : Nat) : Int))) (
     nilChk s0 fun a_1 =>
     Lift.load Sl.toV (a_1.add 2) h fun v_1 =>
     K0 (decide (lit ≥ (IntKind.wrap .i64 (0 - ((v_1.len : Nat) : Int))))) h
    ) (
     K0 false h
    )
   ) (
    K0 false h
   )
  ) (fun t0 h0 =>
   Q t0 h0
  )
def clause_truth (lit : Int) (h : Heap) (Q : Int → Heap → Prop) : Prop :=
  Q (IntKind.wrap .i64 ((if (IntKind.wrap .i64 (0 - lit)) > lit then (IntKind.wrap .i64 (0 - lit)) else lit) - 1)) h
def clause_fits (s0 : (Option Addr)) (lits : Sl) (h : Heap) (Q : Bool → Heap → Prop) : Prop :=
  newM h fun v h0 =>
  loop (fun (s0u1 : Int) h0u1 (K0 : Int → Heap → Prop) =>
   iteB (decide (s0u1 < ((lits.len : Nat) : Int))) (
    idxS lits s0u1 1 fun a =>
    Lift.load (Value.int .i64) a h0u1 fun v_1 =>
    seq (fun (K0u1 : Bool → Heap → Prop) =>
     clause_there s0 v_1 h0u1 fun v_2 h0u3 =>
     iteB (!v_2) (
      K0u1 true h0u3
     ) (
      clause_truth v_1 h0u3 fun v_3 h0u4 =>
      lookM .i64 Value.bool false v v_3 h0u4 fun v_4 =>
      K0u1 v_4.1 h0u4
     )
    ) (fun t0 h0u2 =>
     iteB t0 (
      Q false h0u2
     ) (
      clause_truth v_1 h0u2 fun v_5 h0u5 =>
      setM .i64 Value.bool v v_5 true h0u5 fun h0u6 =>
      K0 (IntKind.wrap .i64 (s0u1 + 1)) h0u6
     )
    )
   ) (
    Q (decide (((lits.len : Nat) : Int) > 1)) h0u1
   )
  ) 0 h0
def slices_Clone_int_int (s0 : Sl) (h : Heap) (Q : Sl → Heap → Prop) : Prop :=
  iteB s0.a.isNone (
   Q Sl.nil h
  ) (
   new [] h fun a h0 =>
   appendS 1 8 (⟨some a, 0, 0⟩ : Sl) s0 h0 fun v_1 h0u1 =>
   Q v_1 h0u1
  )
def clause_watch (lit : Int) (h : Heap) (Q : Int → Heap → Prop) : Prop :=
  iteB (decide (lit > 0)) (
   clause_truth lit h fun v h0 =>
   Q (IntKind.wrap .i64 (2 * v)) h0
  ) (
   clause_truth lit h fun v_1 h0u1 =>
   Q (IntKind.wrap .i64 ((IntKind.wrap .i64 (2 * v_1)) + 1)) h0u1
  )
def clause_link (s0 : (Option Addr)) (at0 : Int) (h : Heap) (Q : Unit → Heap → Prop) : Prop :=
  nilChk s0 fun a =>
  Lift.load Sl.toV (a.add 0) h fun v =>
  idxS v at0 3 fun a_1 =>
  Lift.load Sl.toV (a_1.add 0) h fun v_1 =>
  sliceOf v_1 none (some 2) none 1 fun v_2 =>
  loop (fun (s0u1 : Int) h0 (K0 : Int → Heap → Prop) =>
   iteB (decide (s0u1 < ((v_2.len : Nat) : Int))) (
    seq (fun (K0u1 : Unit → Heap → Prop) =>
     idxS v_2 s0u1 1 fun a_2 =>
     Lift.load (Value.int .i64) a_2 h0 fun v_3 =>
     nilChk s0 fun a_3 =>
     Lift.load Sl.toV (a_3.add 1) h0 fun v_4 =>
     nilChk s0 fun a_4 =>
     Lift.load Sl.toV (a_4.add 1) h0 fun v_5 =>
     (
      clause_watch v_3 h0 fun v_6 h0u2 =>
      (cell? h0u2 (a_3.add 1) = some (Sl.toV v_4)) ∧
      (cell? h0u2 (a_4.add 1) = some (Sl.toV v_5)) ∧
      (
       clause_watch v_3 h0u2 fun v_7 h0u3 =>
       (cell? h0u3 (a_3.add 1) = some (Sl.toV v_4)) ∧
       (cell? h0u3 (a_4.add 1) = some (Sl.toV v_5)) ∧
       idxS v_5 v_7 1 fun a_5 =>
       Lift.load Sl.toV a_5 h0u3 fun v_8 =>
       new [Value.int .i64 at0] h0u3 fun a_6 h0u4 =>
       (cell? h0u4 (a_3.add 1) = some (Sl.toV v_4)) ∧
       (cell? h0u4 (a_4.add 1) = some (Sl.toV v_5)) ∧
       (cell? h0u4 a_5 = some (Sl.toV v_8)) ∧
       appendS 1 8 v_8 (⟨some a_6, 1, 1⟩ : Sl) h0u4 fun v_10 h0u5 =>
       (cell? h0u5 (a_3.add 1) = some (Sl.toV v_4)) ∧
       idxS v_4 v_6 1 fun a_7 =>
       Lift.store a_7 (Sl.toV v_10) h0u5 fun h0u6 =>
       K0u1 () h0u6
      ) ∧ (
       new [Value.int .i64 at0] h0u2 fun a_8 h0u7 =>
       (cell? h0u7 (a_3.add 1) = some (Sl.toV v_4)) ∧
       (cell? h0u7 (a_4.add 1) = some (Sl.toV v_5)) ∧
       clause_watch v_3 h0u7 fun v_12 h0u8 =>
       (cell? h0u8 (a_3.add 1) = some (Sl.toV v_4)) ∧
       (cell? h0u8 (a_4.add 1) = some (Sl.toV v_5)) ∧
       idxS v_5 v_12 1 fun a_9 =>
       Lift.load Sl.toV a_9 h0u8 fun v_13 =>
       appendS 1 8 v_13 (⟨some a_8, 1, 1⟩ : Sl) h0u8 fun v_14 h0u9 =>
       (cell? h0u9 (a_3.add 1) = some (Sl.toV v_4)) ∧
       idxS v_4 v_6 1 fun a_10 =>
       Lift.store a_10 (Sl.toV v_14) h0u9 fun h0u10 =>
       K0u1 () h0u10
      )
     ) ∧ (
      new [Value.int .i64 at0] h0 fun a_11 h0u11 =>
      (cell? h0u11 (a_3.add 1) = some (Sl.toV v_4)) ∧
      (cell? h0u11 (a_4.add 1) = some (Sl.toV v_5)) ∧
      clause_watch v_3 h0u11 fun v_16 h0u12 =>
      (cell? h0u12 (a_3.add 1) = some (Sl.toV v_4)) ∧
      (cell? h0u12 (a_4.add 1) = some (Sl.toV v_5)) ∧
      clause_watch v_3 h0u12 fun v_17 h0u13 =>
      (cell? h0u13 (a_3.add 1) = some (Sl.toV v_4)) ∧
      (cell? h0u13 (a_4.add 1) = some (Sl.toV v_5)) ∧
      idxS v_5 v_17 1 fun a_12 =>
      Lift.load Sl.toV a_12 h0u13 fun v_18 =>
      appendS 1 8 v_18 (⟨some a_11, 1, 1⟩ : Sl) h0u13 fun v_19 h0u14 =>
      (cell? h0u14 (a_3.add 1) = some (Sl.toV v_4)) ∧
      idxS v_4 v_16 1 fun a_13 =>
      Lift.store a_13 (Sl.toV v_19) h0u14 fun h0u15 =>
      K0u1 () h0u15
     )
    ) (fun t0 h0u1 =>
     K0 (IntKind.wrap .i64 (s0u1 + 1)) h0u1
    )
   ) (
    Q () h0
   )
  ) 0 h
def clause_Add (s0 : (Option Addr)) (lits : Sl) (learned : Bool) (h : Heap) (Q : (Int × Int) → Heap → Prop) : Prop :=
  clause_fits s0 lits h fun v h0 =>
  iteB (!v) (
   Q (0, 1) h0
  ) (
   nilChk s0 fun a =>
   Lift.load Sl.toV (a.add 0) h0 fun v_1 =>
   Let (((v_1.len : Nat) : Int) : Int) fun at0 =>
   nilChk s0 fun a_1 =>
   Lift.load Sl.toV (a_1.add 0) h0 fun v_2 =>
   slices_Clone_int_int lits h0 fun v_3 h0u1 =>
   (cell? h0u1 (a_1.add 0) = some (Sl.toV v_2)) ∧
   new [Sl.toV v_3, Value.bool learned, Value.int .i64 0] h0u1 fun a_2 h0u2 =>
   (cell? h0u2 (a_1.add 0) = some (Sl.toV v_2)) ∧
   appendS 3 40 v_2 (⟨some a_2, 1, 1⟩ : Sl) h0u2 fun v_5 h0u3 =>
   nilChk s0 fun a_3 =>
   Lift.store (a_3.add 0) (Sl.toV v_5) h0u3 fun h0u4 =>
   clause_link s0 at0 h0u4 fun v_6 h0u5 =>
   Q (at0, 0) h0u5
  )
def clause_sign (lit : Int) (h : Heap) (Q : Int → Heap → Prop) : Prop :=
  Q (if (-1) > (if 1 < lit then 1 else lit) then (-1) else (if 1 < lit then 1 else lit)) h
def clause_Value (s0 : Sl × Sl × Sl × Sl × Sl × Sl × Sl × Int) (lit : Int) (h : Heap) (Q : Int → Heap → Prop) : Prop :=
  new [Sl.toV s0.1, Sl.toV s0.2.1, Sl.toV s0.2.2.1, Sl.toV s0.2.2.2.1, Sl.toV s0.2.2.2.2.1, Sl.toV s0.2.2.2.2.2.1, Sl.toV s0.2.2.2.2.2.2.1, Value.int .i64 s0.2.2.2.2.2.2.2] h fun s0u1 h0 =>
  clause_there (some s0u1) lit h0 fun v h0u1 =>
  iteB (!v) (
   Q 0 h0u1
  ) (
   Lift.load Sl.toV (s0u1.add 2) h0u1 fun v_1 =>
   clause_truth lit h0u1 fun v_2 h0u2 =>
   (cell? h0u2 (s0u1.add 2) = some (Sl.toV v_1)) ∧
   idxS v_1 v_2 1 fun a =>
   Lift.load (Value.int .i64) a h0u2 fun v_3 =>
   clause_sign lit h0u2 fun v_4 h0u3 =>
   (cell? h0u3 (s0u1.add 2) = some (Sl.toV v_1)) ∧
   (cell? h0u3 a = some (Value.int .i64 v_3)) ∧
   Q (IntKind.wrap .i64 (v_3 * v_4)) h0u3
  )
def clause_put (s0 : (Option Addr)) (lit : Int) (reason : Int) (h : Heap) (Q : Unit → Heap → Prop) : Prop :=
  clause_truth lit h fun v h0 =>
  nilChk s0 fun a =>
  Lift.load Sl.toV (a.add 2) h0 fun v_1 =>
  nilChk s0 fun a_1 =>
  Lift.load Sl.toV (a_1.add 3) h0 fun v_2 =>
  nilChk s0 fun a_2 =>
  Lift.load Sl.toV (a_2.add 4) h0 fun v_3 =>
  nilChk s0 fun a_3 =>
  Lift.load Sl.toV (a_3.add 6) h0 fun v_4 =>
  clause_sign lit h0 fun v_5 h0u1 =>
  (cell? h0u1 (a.add 2) = some (Sl.toV v_1)) ∧
  (cell? h0u1 (a_1.add 3) = some (Sl.toV v_2)) ∧
  (cell? h0u1 (a_2.add 4) = some (Sl.toV v_3)) ∧
  (cell? h0u1 (a_3.add 6) = some (Sl.toV v_4)) ∧
  idxS v_1 v 1 fun a_4 =>
  Lift.store a_4 (Value.int .i64 v_5) h0u1 fun h0u2 =>
  idxS v_2 v 1 fun a_5 =>
  Lift.store a_5 (Value.int .i64 ((v_4.len : Nat) : Int)) h0u2 fun h0u3 =>
  idxS v_3 v 1 fun a_6 =>
  Lift.store a_6 (Value.int .i64 reason) h0u3 fun h0u4 =>
  nilChk s0 fun a_7 =>
  Lift.load Sl.toV (a_7.add 5) h0u4 fun v_6 =>
  new [Value.int .i64 lit] h0u4 fun a_8 h0u5 =>
  appendS 1 8 v_6 (⟨some a_8, 1, 1⟩ : Sl) h0u5 fun v_8 h0u6 =>
  nilChk s0 fun a_9 =>
  Lift.store (a_9.add 5) (Sl.toV v_8) h0u6 fun h0u7 =>
  Q () h0u7
def clause_Decide (s0 : (Option Addr)) (lit : Int) (h : Heap) (Q : Bool → Heap → Prop) : Prop :=
  seq (fun (K0 : Bool → Heap → Prop) =>
   clause_there s0 lit h fun v h0u1 =>
   iteB (!v) (
    K0 true h0u1
   ) (
    nilChk s0 fun a =>
    loadS C_sl_sl_sl_sl_sl_sl_sl_i64 8 a h0u1 fun v_1 =>
    clause_Value (v_1.1, v_1.2.1, v_1.2.2.1, v_1.2.2.2.1, v_1.2.2.2.2.1, v_1.2.2.2.2.2.1, v_1.2.2.2.2.2.2.1, v_1.2.2.2.2.2.2.2) lit h0u1 fun v_2 h0u2 =>
    K0 (v_2 != 0) h0u2
   )
  ) (fun t0 h0 =>
   iteB t0 (
    Q false h0
   ) (
    nilChk s0 fun a_1 =>
    Lift.load Sl.toV (a_1.add 6) h0 fun v_3 =>
    nilChk s0 fun a_2 =>
    Lift.load Sl.toV (a_2.add 5) h0 fun v_4 =>
    new [Value.int .i64 ((v_4.len : Nat) : Int)] h0 fun a_3 h0u3 =>
    (cell? h0u3 (a_1.add 6) = some (Sl.toV v_3)) ∧
    appendS 1 8 v_3 (⟨some a_3, 1, 1⟩ : Sl) h0u3 fun v_6 h0u4 =>
    nilChk s0 fun a_4 =>
    Lift.store (a_4.add 6) (Sl.toV v_6) h0u4 fun h0u5 =>
    clause_put s0 lit (-1) h0u5 fun v_7 h0u6 =>
    Q true h0u6
   )
  )
def clause_Tell (s0 : (Option Addr)) (lit : Int) (reason : Int) (h : Heap) (Q : Bool → Heap → Prop) : Prop :=
  seq (fun (K0 : Unit → Heap → Prop) =>
   seq (fun (K0u1 : Bool → Heap → Prop) =>
    clause_there s0 lit h fun v h0u2 =>
    iteB (!v) (
     K0u1 true h0u2
    ) (
     nilChk s0 fun a =>
     loadS C_sl_sl_sl_sl_sl_sl_sl_i64 8 a h0u2 fun v_1 =>
     clause_Value (v_1.1, v_1.2.1, v_1.2.2.1, v_1.2.2.2.1, v_1.2.2.2.2.1, v_1.2.2.2.2.2.1, v_1.2.2.2.2.2.2.1, v_1.2.2.2.2.2.2.2) lit h0u2 fun v_2 h0u3 =>
     K0u1 (decide (v_2 < 0)) h0u3
    )
   ) (fun t0u1 h0u1 =>
    iteB t0u1 (
     Q false h0u1
    ) (
     nilChk s0 fun a_1 =>
     loadS C_sl_sl_sl_sl_sl_sl_sl_i64 8 a_1 h0u1 fun v_3 =>
     clause_Value (v_3.1, v_3.2.1, v_3.2.2.1, v_3.2.2.2.1, v_3.2.2.2.2.1, v_3.2.2.2.2.2.1, v_3.2.2.2.2.2.2.1, v_3.2.2.2.2.2.2.2) lit h0u1 fun v_4 h0u4 =>
     iteB (v_4 == 0) (
      clause_put s0 lit reason h0u4 fun v_5 h0u5 =>
      K0 () h0u5
     ) (
      K0 () h0u4
     )
    )
   )
  ) (fun t0 h0 =>
   Q true h0
  )
def clause_ask (s0 : (Option Addr)) (at0 : Int) (gone : Int) (h : Heap) (Q : Int → Heap → Prop) : Prop :=
  nilChk s0 fun a =>
  Lift.load Sl.toV (a.add 0) h fun v =>
  idxS v at0 3 fun a_1 =>
  Lift.load Sl.toV (a_1.add 0) h fun v_1 =>
  seq (fun (K0 : Unit → Heap → Prop) =>
   idxS v_1 0 1 fun a_2 =>
   Lift.load (Value.int .i64) a_2 h fun v_2 =>
   iteB (v_2 == gone) (
    idxS v_1 1 1 fun a_3 =>
    Lift.load (Value.int .i64) a_3 h fun v_3 =>
    idxS v_1 0 1 fun a_4 =>
    Lift.load (Value.int .i64) a_4 h fun v_4 =>
    idxS v_1 0 1 fun a_5 =>
    Lift.store a_5 (Value.int .i64 v_3) h fun h0u1 =>
    idxS v_1 1 1 fun a_6 =>
    Lift.store a_6 (Value.int .i64 v_4) h0u1 fun h0u2 =>
    K0 () h0u2
   ) (
    K0 () h
   )
  ) (fun t0 h0 =>
   nilChk s0 fun a_7 =>
   loadS C_sl_sl_sl_sl_sl_sl_sl_i64 8 a_7 h0 fun v_5 =>
   idxS v_1 0 1 fun a_8 =>
   Lift.load (Value.int .i64) a_8 h0 fun v_6 =>
   clause_Value (v_5.1, v_5.2.1, v_5.2.2.1, v_5.2.2.2.1, v_5.2.2.2.2.1, v_5.2.2.2.2.2.1, v_5.2.2.2.2.2.2.1, v_5.2.2.2.2.2.2.2) v_6 h0 fun v_7 h0u3 =>
   iteB (decide (v_7 > 0)) (
    Q 0 h0u3
   ) (
    loop (fun (s0u1 : Int) h0u4 (K0u1 : Int → Heap → Prop) =>
     iteB (decide (s0u1 < ((v_1.len : Nat) : Int))) (
      nilChk s0 fun a_9 =>
      loadS C_sl_sl_sl_sl_sl_sl_sl_i64 8 a_9 h0u4 fun v_8 =>
      idxS v_1 s0u1 1 fun a_10 =>
      Lift.load (Value.int .i64) a_10 h0u4 fun v_9 =>
      clause_Value (v_8.1, v_8.2.1, v_8.2.2.1, v_8.2.2.2.1, v_8.2.2.2.2.1, v_8.2.2.2.2.2.1, v_8.2.2.2.2.2.2.1, v_8.2.2.2.2.2.2.2) v_9 h0u4 fun v_10 h0u5 =>
      iteB (decide (v_10 ≥ 0)) (
       idxS v_1 s0u1 1 fun a_11 =>
       Lift.load (Value.int .i64) a_11 h0u5 fun v_11 =>
       idxS v_1 1 1 fun a_12 =>
       Lift.load (Value.int .i64) a_12 h0u5 fun v_12 =>
       idxS v_1 1 1 fun a_13 =>
       Lift.store a_13 (Value.int .i64 v_11) h0u5 fun h0u6 =>
       idxS v_1 s0u1 1 fun a_14 =>
       Lift.store a_14 (Value.int .i64 v_12) h0u6 fun h0u7 =>
       seq (fun (K0u2 : Unit → Heap → Prop) =>
        nilChk s0 fun a_15 =>
        Lift.load Sl.toV (a_15.add 1) h0u7 fun v_13 =>
        idxS v_1 1 1 fun a_16 =>
        Lift.load (Value.int .i64) a_16 h0u7 fun v_14 =>
        nilChk s0 fun a_17 =>
        Lift.load Sl.toV (a_17.add 1) h0u7 fun v_15 =>
        idxS v_1 1 1 fun a_18 =>
        Lift.load (Value.int .i64) a_18 h0u7 fun v_16 =>
        (
         clause_watch v_14 h0u7 fun v_17 h0u9 =>
         (cell? h0u9 (a_15.add 1) = some (Sl.toV v_13)) ∧
         (cell? h0u9 (a_17.add 1) = some (Sl.toV v_15)) ∧
         (cell? h0u9 a_18 = some (Value.int .i64 v_16)) ∧
         (
          clause_watch v_16 h0u9 fun v_18 h0u10 =>
          (cell? h0u10 (a_15.add 1) = some (Sl.toV v_13)) ∧
          (cell? h0u10 (a_17.add 1) = some (Sl.toV v_15)) ∧
          idxS v_15 v_18 1 fun a_19 =>
          Lift.load Sl.toV a_19 h0u10 fun v_19 =>
          new [Value.int .i64 at0] h0u10 fun a_20 h0u11 =>
          (cell? h0u11 (a_15.add 1) = some (Sl.toV v_13)) ∧
          (cell? h0u11 (a_17.add 1) = some (Sl.toV v_15)) ∧
          (cell? h0u11 a_19 = some (Sl.toV v_19)) ∧
          appendS 1 8 v_19 (⟨some a_20, 1, 1⟩ : Sl) h0u11 fun v_21 h0u12 =>
          (cell? h0u12 (a_15.add 1) = some (Sl.toV v_13)) ∧
          idxS v_13 v_17 1 fun a_21 =>
          Lift.store a_21 (Sl.toV v_21) h0u12 fun h0u13 =>
          K0u2 () h0u13
         ) ∧ (
          new [Value.int .i64 at0] h0u9 fun a_22 h0u14 =>
          (cell? h0u14 (a_15.add 1) = some (Sl.toV v_13)) ∧
          (cell? h0u14 (a_17.add 1) = some (Sl.toV v_15)) ∧
          (cell? h0u14 a_18 = some (Value.int .i64 v_16)) ∧
          clause_watch v_16 h0u14 fun v_23 h0u15 =>
          (cell? h0u15 (a_15.add 1) = some (Sl.toV v_13)) ∧
          (cell? h0u15 (a_17.add 1) = some (Sl.toV v_15)) ∧
          idxS v_15 v_23 1 fun a_23 =>
          Lift.load Sl.toV a_23 h0u15 fun v_24 =>
          appendS 1 8 v_24 (⟨some a_22, 1, 1⟩ : Sl) h0u15 fun v_25 h0u16 =>
          (cell? h0u16 (a_15.add 1) = some (Sl.toV v_13)) ∧
          idxS v_13 v_17 1 fun a_24 =>
          Lift.store a_24 (Sl.toV v_25) h0u16 fun h0u17 =>
          K0u2 () h0u17
         )
        ) ∧ (
         new [Value.int .i64 at0] h0u7 fun a_25 h0u18 =>
         (cell? h0u18 (a_15.add 1) = some (Sl.toV v_13)) ∧
         (cell? h0u18 a_16 = some (Value.int .i64 v_14)) ∧
         (cell? h0u18 (a_17.add 1) = some (Sl.toV v_15)) ∧
         (cell? h0u18 a_18 = some (Value.int .i64 v_16)) ∧
         clause_watch v_14 h0u18 fun v_27 h0u19 =>
         (cell? h0u19 (a_15.add 1) = some (Sl.toV v_13)) ∧
         (cell? h0u19 (a_17.add 1) = some (Sl.toV v_15)) ∧
         (cell? h0u19 a_18 = some (Value.int .i64 v_16)) ∧
         clause_watch v_16 h0u19 fun v_28 h0u20 =>
         (cell? h0u20 (a_15.add 1) = some (Sl.toV v_13)) ∧
         (cell? h0u20 (a_17.add 1) = some (Sl.toV v_15)) ∧
         idxS v_15 v_28 1 fun a_26 =>
         Lift.load Sl.toV a_26 h0u20 fun v_29 =>
         appendS 1 8 v_29 (⟨some a_25, 1, 1⟩ : Sl) h0u20 fun v_30 h0u21 =>
         (cell? h0u21 (a_15.add 1) = some (Sl.toV v_13)) ∧
         idxS v_13 v_27 1 fun a_27 =>
         Lift.store a_27 (Sl.toV v_30) h0u21 fun h0u22 =>
         K0u2 () h0u22
        )
       ) (fun t0u1 h0u8 =>
        Q 1 h0u8
       )
      ) (
       Let (IntKind.wrap .i64 (s0u1 + 1) : Int) fun k =>
       K0u1 k h0u5
      )
     ) (
      idxS v_1 0 1 fun a_28 =>
      Lift.load (Value.int .i64) a_28 h0u4 fun v_31 =>
      clause_Tell s0 v_31 at0 h0u4 fun v_32 h0u23 =>
      iteB (!v_32) (
       Q 2 h0u23
      ) (
       Q 0 h0u23
      )
     )
    ) 2 h0u3
   )
  )
def slices_Grow_int_int (s0 : Sl) (n : Int) (h : Heap) (Q : Sl → Heap → Prop) : Prop :=
  seq (fun (K0 : Unit → Heap → Prop) =>
   iteB (decide (n < 0)) (
    False
   ) (
    K0 () h
   )
  ) (fun t0 h0 =>
   seq (fun (K0u1 : Sl → Heap → Prop) =>
    Let (IntKind.wrap .i64 (n - (IntKind.wrap .i64 (((s0.cap : Nat) : Int) - ((s0.len : Nat) : Int)))) : Int) fun n_1 =>
    iteB (decide (n_1 > 0)) (
     sliceOf s0 none (some ((s0.cap : Nat) : Int)) none 1 fun v =>
     appendZ 1 8 [Value.int .i64 0] v n_1 h0 fun v_1 h0u2 =>
     sliceOf v_1 none (some ((s0.len : Nat) : Int)) none 1 fun v_2 =>
     K0u1 v_2 h0u2
    ) (
     K0u1 s0 h0
    )
   ) (fun t0u1 h0u1 =>
    Q t0u1 h0u1
   )
  )
def slices_Concat_int_int (slices : Sl) (h : Heap) (Q : Sl → Heap → Prop) : Prop :=
  loop (fun (s0 : Int × Int) h0 (K0 : (Int × Int) → Heap → Prop) =>
   iteB (decide (s0.2 < ((slices.len : Nat) : Int))) (
    seq (fun (K0u1 : Int → Heap → Prop) =>
     idxS slices s0.2 1 fun a =>
     Lift.load Sl.toV a h0 fun v =>
     Let (IntKind.wrap .i64 (s0.1 + ((v.len : Nat) : Int)) : Int) fun size =>
     iteB (decide (size < 0)) (
      False
     ) (
      K0u1 size h0
     )
    ) (fun t0 h0u1 =>
     K0 (t0, IntKind.wrap .i64 (s0.2 + 1)) h0u1
    )
   ) (
    slices_Grow_int_int Sl.nil s0.1 h0 fun v_1 h0u2 =>
    loop (fun (s0u1 : Sl × Int) h0u3 (K0u2 : (Sl × Int) → Heap → Prop) =>
     iteB (decide (s0u1.2 < ((slices.len : Nat) : Int))) (
      idxS slices s0u1.2 1 fun a_1 =>
      Lift.load Sl.toV a_1 h0u3 fun v_2 =>
      appendS 1 8 s0u1.1 v_2 h0u3 fun v_3 h0u4 =>
      K0u2 (v_3, IntKind.wrap .i64 (s0u1.2 + 1)) h0u4
     ) (
      Q s0u1.1 h0u3
     )
    ) (v_1, 0) h0u2
   )
  ) (0, 0) h
def clause_Run (s0 : (Option Addr)) (h : Heap) (Q : Int → Heap → Prop) : Prop :=
  seq (fun (K0 : Int → Heap → Prop) =>
   loop (fun (s0u1 : Int) h0u1 (K0u1 : Int → Heap → Prop) =>
    nilChk s0 fun a =>
    Lift.load (Value.int .i64) (a.add 7) h0u1 fun v =>
    nilChk s0 fun a_1 =>
    Lift.load Sl.toV (a_1.add 5) h0u1 fun v_1 =>
    iteB (decide (v < ((v_1.len : Nat) : Int))) (
     nilChk s0 fun a_2 =>
     Lift.load Sl.toV (a_2.add 5) h0u1 fun v_2 =>
     nilChk s0 fun a_3 =>
     Lift.load (Value.int .i64) (a_3.add 7) h0u1 fun v_3 =>
     idxS v_2 v_3 1 fun a_4 =>
     Lift.load (Value.int .i64) a_4 h0u1 fun v_4 =>
     Let (IntKind.wrap .i64 (0 - v_4) : Int) fun gone =>
     nilChk s0 fun a_5 =>
     Lift.load (Value.int .i64) (a_5.add 7) h0u1 fun v_5 =>
     nilChk s0 fun a_6 =>
     Lift.store (a_6.add 7) (Value.int .i64 (IntKind.wrap .i64 (v_5 + 1))) h0u1 fun h0u2 =>
     nilChk s0 fun a_7 =>
     Lift.load Sl.toV (a_7.add 1) h0u2 fun v_6 =>
     clause_watch gone h0u2 fun v_7 h0u3 =>
     (cell? h0u3 (a_7.add 1) = some (Sl.toV v_6)) ∧
     idxS v_6 v_7 1 fun a_8 =>
     Lift.load Sl.toV a_8 h0u3 fun v_8 =>
     nilChk s0 fun a_9 =>
     Lift.load Sl.toV (a_9.add 1) h0u3 fun v_9 =>
     clause_watch gone h0u3 fun v_10 h0u4 =>
     (cell? h0u4 (a_9.add 1) = some (Sl.toV v_9)) ∧
     idxS v_9 v_10 1 fun a_10 =>
     Lift.store a_10 (Sl.toV Sl.nil) h0u4 fun h0u5 =>
     loop (fun (s0u2 : Int × Sl × Int) h0u6 (K0u2 : (Int × Sl × Int) → Heap → Prop) =>
      iteB (decide (s0u2.2.2 < ((v_8.len : Nat) : Int))) (
       idxS v_8 s0u2.2.2 1 fun a_11 =>
       Lift.load (Value.int .i64) a_11 h0u6 fun v_11 =>
       clause_ask s0 v_11 gone h0u6 fun v_12 h0u7 =>
       seq (fun (K0u3 : Sl → Heap → Prop) =>
        iteB (v_12 != 1) (
         new [Value.int .i64 v_11] h0u7 fun a_12 h0u9 =>
         appendS 1 8 s0u2.2.1 (⟨some a_12, 1, 1⟩ : Sl) h0u9 fun v_14 h0u10 =>
         K0u3 v_14 h0u10
        ) (
         K0u3 s0u2.2.1 h0u7
        )
       ) (fun t0u1 h0u8 =>
        iteB (v_12 == 2) (
         nilChk s0 fun a_13 =>
         Lift.load Sl.toV (a_13.add 1) h0u8 fun v_15 =>
         sliceOf v_8 (some (IntKind.wrap .i64 (s0u2.2.2 + 1))) none none 1 fun v_16 =>
         nilChk s0 fun a_14 =>
         Lift.load Sl.toV (a_14.add 1) h0u8 fun v_17 =>
         clause_watch gone h0u8 fun v_18 h0u11 =>
         (cell? h0u11 (a_13.add 1) = some (Sl.toV v_15)) ∧
         (cell? h0u11 (a_14.add 1) = some (Sl.toV v_17)) ∧
         clause_watch gone h0u11 fun v_19 h0u12 =>
         (cell? h0u12 (a_13.add 1) = some (Sl.toV v_15)) ∧
         (cell? h0u12 (a_14.add 1) = some (Sl.toV v_17)) ∧
         idxS v_17 v_19 1 fun a_15 =>
         Lift.load Sl.toV a_15 h0u12 fun v_20 =>
         new [Sl.toV t0u1, Sl.toV v_16, Sl.toV v_20] h0u12 fun a_16 h0u13 =>
         (cell? h0u13 (a_13.add 1) = some (Sl.toV v_15)) ∧
         slices_Concat_int_int (⟨some a_16, 3, 3⟩ : Sl) h0u13 fun v_22 h0u14 =>
         (cell? h0u14 (a_13.add 1) = some (Sl.toV v_15)) ∧
         idxS v_15 v_18 1 fun a_17 =>
         Lift.store a_17 (Sl.toV v_22) h0u14 fun h0u15 =>
         K0 v_11 h0u15
        ) (
         K0u2 (s0u2.1, t0u1, IntKind.wrap .i64 (s0u2.2.2 + 1)) h0u8
        )
       )
      ) (
       nilChk s0 fun a_18 =>
       Lift.load Sl.toV (a_18.add 1) h0u6 fun v_23 =>
       nilChk s0 fun a_19 =>
       Lift.load Sl.toV (a_19.add 1) h0u6 fun v_24 =>
       clause_watch gone h0u6 fun v_25 h0u16 =>
       (cell? h0u16 (a_18.add 1) = some (Sl.toV v_23)) ∧
       (cell? h0u16 (a_19.add 1) = some (Sl.toV v_24)) ∧
       clause_watch gone h0u16 fun v_26 h0u17 =>
       (cell? h0u17 (a_18.add 1) = some (Sl.toV v_23)) ∧
       (cell? h0u17 (a_19.add 1) = some (Sl.toV v_24)) ∧
       idxS v_24 v_26 1 fun a_20 =>
       Lift.load Sl.toV a_20 h0u17 fun v_27 =>
       appendS 1 8 s0u2.2.1 v_27 h0u17 fun v_28 h0u18 =>
       (cell? h0u18 (a_18.add 1) = some (Sl.toV v_23)) ∧
       idxS v_23 v_25 1 fun a_21 =>
       Lift.store a_21 (Sl.toV v_28) h0u18 fun h0u19 =>
       K0u1 s0u2.1 h0u19
      )
     ) (s0u1, Sl.nil, 0) h0u5
    ) (
     K0 s0u1 h0u1
    )
   ) (-1) h
  ) (fun t0 h0 =>
   seq (fun (K0u4 : Unit → Heap → Prop) =>
    iteB (t0 != (-1)) (
     nilChk s0 fun a_22 =>
     Lift.load Sl.toV (a_22.add 0) h0 fun v_29 =>
     idxS v_29 t0 3 fun a_23 =>
     Lift.load (Value.int .i64) (a_23.add 2) h0 fun v_30 =>
     idxS v_29 t0 3 fun a_24 =>
     Lift.store (a_24.add 2) (Value.int .i64 (IntKind.wrap .i64 (v_30 + 1))) h0 fun h0u21 =>
     K0u4 () h0u21
    ) (
     K0u4 () h0
    )
   ) (fun t0u2 h0u20 =>
    Q t0 h0u20
   )
  )
def learn_truth (lit : Int) (h : Heap) (Q : Int → Heap → Prop) : Prop :=
  Q (IntKind.wrap .i64 ((if (IntKind.wrap .i64 (0 - lit)) > lit then (IntKind.wrap .i64 (0 - lit)) else lit) - 1)) h
def learn_at (s0 : Sl × Sl × Sl × Sl × Sl × Sl × Sl × Int) (lit : Int) (h : Heap) (Q : Int → Heap → Prop) : Prop :=
  mem h fun h0 =>
  learn_truth lit h0 fun v h0u1 =>
  seq (fun (K0 : Bool → Heap → Prop) =>
   iteB (lit != 0) (
    iteB (decide (v ≥ 0)) (
     K0 (decide (v < ((s0.2.2.2.1.len : Nat) : Int))) h0u1
    ) (
     K0 false h0u1
    )
   ) (
    K0 false h0u1
   )
  ) (fun t0 h0u2 =>
   iteB t0 (
    idxS s0.2.2.2.1 v 1 fun a =>
    Lift.load (Value.int .i64) a h0u2 fun v_1 =>
    Q v_1 h0u2
   ) (
    Q 0 h0u2
   )
  )
def learn_Level (s0 : Sl × Sl × Sl × Sl × Sl × Sl × Sl × Int) (lits : Sl) (h : Heap) (Q : Int → Heap → Prop) : Prop :=
  mem h fun h0 =>
  loop (fun (s0u1 : Int × Int) h0u1 (K0 : (Int × Int) → Heap → Prop) =>
   iteB (decide (s0u1.2 < ((lits.len : Nat) : Int))) (
    idxS lits s0u1.2 1 fun a =>
    Lift.load (Value.int .i64) a h0u1 fun v =>
    learn_at (s0.1, s0.2.1, s0.2.2.1, s0.2.2.2.1, s0.2.2.2.2.1, s0.2.2.2.2.2.1, s0.2.2.2.2.2.2.1, s0.2.2.2.2.2.2.2) v h0u1 fun v_1 h0u2 =>
    Let ((if v_1 > s0u1.1 then v_1 else s0u1.1) : Int) fun most =>
    K0 (most, IntKind.wrap .i64 (s0u1.2 + 1)) h0u2
   ) (
    Q s0u1.1 h0u1
   )
  ) (0, 0) h0
def learn_ready (s0 : Sl × Sl × Sl × Sl × Sl × Sl × Sl × Int) (lits : Sl) (h : Heap) (Q : Bool → Heap → Prop) : Prop :=
  mem h fun h0 =>
  newM h0 fun v h0u1 =>
  loop (fun (s0u1 : Int) h0u2 (K0 : Int → Heap → Prop) =>
   iteB (decide (s0u1 < ((lits.len : Nat) : Int))) (
    idxS lits s0u1 1 fun a =>
    Lift.load (Value.int .i64) a h0u2 fun v_1 =>
    seq (fun (K0u1 : Bool → Heap → Prop) =>
     clause_Value (s0.1, s0.2.1, s0.2.2.1, s0.2.2.2.1, s0.2.2.2.2.1, s0.2.2.2.2.2.1, s0.2.2.2.2.2.2.1, s0.2.2.2.2.2.2.2) v_1 h0u2 fun v_2 h0u4 =>
     iteB (v_2 != (-1)) (
      K0u1 true h0u4
     ) (
      learn_truth v_1 h0u4 fun v_3 h0u5 =>
      lookM .i64 Value.bool false v v_3 h0u5 fun v_4 =>
      K0u1 v_4.1 h0u5
     )
    ) (fun t0 h0u3 =>
     iteB t0 (
      Q false h0u3
     ) (
      learn_truth v_1 h0u3 fun v_5 h0u6 =>
      setM .i64 Value.bool v v_5 true h0u6 fun h0u7 =>
      K0 (IntKind.wrap .i64 (s0u1 + 1)) h0u7
     )
    )
   ) (
    seq (fun (K0u2 : Bool → Heap → Prop) =>
     iteB (decide (((s0.2.2.2.2.2.2.1.len : Nat) : Int) > 0)) (
      learn_Level (s0.1, s0.2.1, s0.2.2.1, s0.2.2.2.1, s0.2.2.2.2.1, s0.2.2.2.2.2.1, s0.2.2.2.2.2.2.1, s0.2.2.2.2.2.2.2) lits h0u2 fun v_6 h0u9 =>
      K0u2 (v_6 == ((s0.2.2.2.2.2.2.1.len : Nat) : Int)) h0u9
     ) (
      K0u2 false h0u2
     )
    ) (fun t0u1 h0u8 =>
     Q t0u1 h0u8
    )
   )
  ) 0 h0u1
def learn_work_put (w0 : (Option Addr)) (lit : Int) (h : Heap) (Q : Unit → Heap → Prop) : Prop :=
  learn_truth lit h fun v h0 =>
  seq (fun (K0 : Bool → Heap → Prop) =>
   nilChk w0 fun a =>
   Lift.load Value.map (a.add 9) h0 fun v_1 =>
   lookM .i64 Value.bool false v_1 v h0 fun v_2 =>
   iteB v_2.1 (
    K0 true h0
   ) (
    nilChk w0 fun a_1 =>
    loadS C_sl_sl_sl_sl_sl_sl_sl_i64 8 (a_1.add 0) h0 fun v_3 =>
    learn_at (v_3.1, v_3.2.1, v_3.2.2.1, v_3.2.2.2.1, v_3.2.2.2.2.1, v_3.2.2.2.2.2.1, v_3.2.2.2.2.2.2.1, v_3.2.2.2.2.2.2.2) lit h0 fun v_4 h0u2 =>
    K0 (v_4 == 0) h0u2
   )
  ) (fun t0 h0u1 =>
   iteB t0 (
    Q () h0u1
   ) (
    nilChk w0 fun a_2 =>
    Lift.load Value.map (a_2.add 8) h0u1 fun v_5 =>
    nilChk w0 fun a_3 =>
    Lift.load Value.map (a_3.add 9) h0u1 fun v_6 =>
    entryM .i64 (Value.int .i64) 0 v_5 v h0u1 fun en h0u3 =>
    entryS .i64 (Value.int .i64) v_5 en.2 lit h0u3 fun h0u4 =>
    entryM .i64 Value.bool false v_6 v h0u4 fun en_1 h0u5 =>
    entryS .i64 Value.bool v_6 en_1.2 true h0u5 fun h0u6 =>
    nilChk w0 fun a_4 =>
    loadS C_sl_sl_sl_sl_sl_sl_sl_i64 8 (a_4.add 0) h0u6 fun v_7 =>
    nilChk w0 fun a_5 =>
    Lift.load Sl.toV ((a_5.add 0).add 6) h0u6 fun v_8 =>
    learn_at (v_7.1, v_7.2.1, v_7.2.2.1, v_7.2.2.2.1, v_7.2.2.2.2.1, v_7.2.2.2.2.2.1, v_7.2.2.2.2.2.2.1, v_7.2.2.2.2.2.2.2) lit h0u6 fun v_9 h0u7 =>
    (cell? h0u7 ((a_5.add 0).add 6) = some (Sl.toV v_8)) ∧
    iteB (v_9 == ((v_8.len : Nat) : Int)) (
     nilChk w0 fun a_6 =>
     Lift.load (Value.int .i64) (a_6.add 10) h0u7 fun v_10 =>
     nilChk w0 fun a_7 =>
     Lift.store (a_7.add 10) (Value.int .i64 (IntKind.wrap .i64 (v_10 + 1))) h0u7 fun h0u8 =>
     Q () h0u8
    ) (
     Q () h0u7
    )
   )
  )
def slices_Backward_int_int (s0 : Sl) (h : Heap) (Q : FnV → Heap → Prop) : Prop :=
  new [Sl.toV s0] h fun s0u1 h0 =>
  Q (FnV.mk 71 [] [Value.pointer (some s0u1)]) h0
def learn_work_take (w0 : (Option Addr)) (v : Int) (h : Heap) (Q : Bool → Heap → Prop) : Prop :=
  nilChk w0 fun a =>
  Lift.load Sl.toV ((a.add 0).add 4) h fun v_1 =>
  idxS v_1 v 1 fun a_1 =>
  Lift.load (Value.int .i64) a_1 h fun v_2 =>
  iteB (v_2 == (-1)) (
   Q false h
  ) (
   nilChk w0 fun a_2 =>
   Lift.load Value.map (a_2.add 8) h fun v_3 =>
   delM .i64 (Value.int .i64) v_3 v h fun h0 =>
   nilChk w0 fun a_3 =>
   Lift.load (Value.int .i64) (a_3.add 10) h0 fun v_4 =>
   nilChk w0 fun a_4 =>
   Lift.store (a_4.add 10) (Value.int .i64 (IntKind.wrap .i64 (v_4 - 1))) h0 fun h0u1 =>
   nilChk w0 fun a_5 =>
   Lift.load Sl.toV ((a_5.add 0).add 0) h0u1 fun v_5 =>
   idxS v_5 v_2 3 fun a_6 =>
   Lift.load Sl.toV (a_6.add 0) h0u1 fun v_6 =>
   loop (fun (s0 : Int) h0u2 (K0 : Int → Heap → Prop) =>
    iteB (decide (s0 < ((v_6.len : Nat) : Int))) (
     seq (fun (K0u1 : Unit → Heap → Prop) =>
      idxS v_6 s0 1 fun a_7 =>
      Lift.load (Value.int .i64) a_7 h0u2 fun v_7 =>
      learn_truth v_7 h0u2 fun v_8 h0u4 =>
      iteB (v_8 != v) (
       learn_work_put w0 v_7 h0u4 fun v_9 h0u5 =>
       K0u1 () h0u5
      ) (
       K0u1 () h0u4
      )
     ) (fun t0 h0u3 =>
      K0 (IntKind.wrap .i64 (s0 + 1)) h0u3
     )
    ) (
     Q true h0u2
    )
   ) 0 h0u1
  )
def learn_work_resolve (w0 : (Option Addr)) (h : Heap) (Q : Bool → Heap → Prop) : Prop :=
  new [Value.pointer w0] h fun w0u1 h0 =>
  new [Value.bool false] h0 fun a h0u1 =>
  Lift.load Value.pointer w0u1 h0u1 fun v =>
  nilChk v fun a_1 =>
  Lift.load Sl.toV ((a_1.add 0).add 5) h0u1 fun v_1 =>
  slices_Backward_int_int v_1 h0u1 fun v_2 h0u2 =>
  ∃ (c0 : Addr), v_2 = FnV.mk 71 [] [Value.pointer (some c0)] ∧
  mem h0u2 fun h0u3 =>
  backL c0 1 (fun a h k => Lift.load (Value.int .i64) a h k) (fun (i : Int) (x0 : Int) h0u4 K0 =>
   Lift.load Value.pointer w0u1 h0u4 fun v_3 =>
   nilChk v_3 fun a_2 =>
   Lift.load (Value.int .i64) (a_2.add 10) h0u4 fun v_4 =>
   iteB (v_4 == 1) (
    Lift.store a (Value.bool true) h0u4 fun h0u6 =>
    Lift.load Value.bool a h0u6 fun r =>
    Q r h0u6
   ) (
    Lift.load Value.pointer w0u1 h0u4 fun v_5 =>
    nilChk v_5 fun a_3 =>
    Lift.load Value.map (a_3.add 8) h0u4 fun v_6 =>
    learn_truth x0 h0u4 fun v_7 h0u7 =>
    (cell? h0u7 w0u1 = some (Value.pointer v_5)) ∧
    (cell? h0u7 (a_3.add 8) = some (Value.map v_6)) ∧
    lookM .i64 (Value.int .i64) 0 v_6 v_7 h0u7 fun v_8 =>
    seq (fun (K0u1 : Bool → Heap → Prop) =>
     iteB v_8.2 (
      Lift.load Value.pointer w0u1 h0u7 fun v_9 =>
      learn_truth x0 h0u7 fun v_10 h0u9 =>
      (cell? h0u9 w0u1 = some (Value.pointer v_9)) ∧
      learn_work_take v_9 v_10 h0u9 fun v_11 h0u10 =>
      K0u1 (!v_11) h0u10
     ) (
      K0u1 false h0u7
     )
    ) (fun t0 h0u8 =>
     iteB t0 (
      Lift.store a (Value.bool false) h0u8 fun h0u11 =>
      Lift.load Value.bool a h0u11 fun r_1 =>
      Q r_1 h0u11
     ) (
      K0 h0u8
     )
    )
   )
  ) (fun h0u5 =>
   Lift.load Value.pointer w0u1 h0u5 fun v_12 =>
   nilChk v_12 fun a_4 =>
   Lift.load (Value.int .i64) (a_4.add 10) h0u5 fun v_13 =>
   Lift.store a (Value.bool (v_13 == 1)) h0u5 fun h0u12 =>
   Lift.load Value.bool a h0u12 fun r_2 =>
   Q r_2 h0u12
  ) h0u3
def maps_Values_map_int_int_int_int (m0 : (Option Nat)) (h : Heap) (Q : FnV → Heap → Prop) : Prop :=
  new [Value.map m0] h fun m0u1 h0 =>
  Q (FnV.mk 63 [] [Value.pointer (some m0u1)]) h0
def learn_order (s0 : Sl × Sl × Sl × Sl × Sl × Sl × Sl × Int) (h : Heap) (Q : FnV → Heap → Prop) : Prop :=
  new [Sl.toV s0.1, Sl.toV s0.2.1, Sl.toV s0.2.2.1, Sl.toV s0.2.2.2.1, Sl.toV s0.2.2.2.2.1, Sl.toV s0.2.2.2.2.2.1, Sl.toV s0.2.2.2.2.2.2.1, Value.int .i64 s0.2.2.2.2.2.2.2] h fun s0u1 h0 =>
  Q (FnV.mk 64 [] [Value.pointer (some s0u1)]) h0
def slices_AppendSeq_int_int (s0 : Sl) (seq : FnV) (h : Heap) (Q : Sl → Heap → Prop) : Prop :=
  new [Sl.toV s0] h fun s0u1 h0 =>
  (
  ∃ (c0 : Addr), seq = FnV.mk 63 [] [Value.pointer (some c0)] ∧
  mem h0 fun h0u1 =>
  mapV (Value.int .i64) .i64 c0 (fun (x0 : Int) h0u2 K0 =>
   Lift.load Sl.toV s0u1 h0u2 fun v =>
   new [Value.int .i64 x0] h0u2 fun a h0u4 =>
   appendS 1 8 v (⟨some a, 1, 1⟩ : Sl) h0u4 fun v_2 h0u5 =>
   Lift.store s0u1 (Sl.toV v_2) h0u5 fun h0u6 =>
   K0 h0u6
  ) (fun h0u3 =>
   Lift.load Sl.toV s0u1 h0u3 fun v_3 =>
   Q v_3 h0u3
  ) h0u1
  ) ∨ (
  ∃ (c0u1 : Addr), seq = FnV.mk 70 [] [Value.pointer (some c0u1)] ∧
  mem h0 fun h0u7 =>
  mapK Value.bool .i64 c0u1 (fun (x0u1 : Int) h0u8 K0u1 =>
   Lift.load Sl.toV s0u1 h0u8 fun v_4 =>
   new [Value.int .i64 x0u1] h0u8 fun a_1 h0u10 =>
   appendS 1 8 v_4 (⟨some a_1, 1, 1⟩ : Sl) h0u10 fun v_6 h0u11 =>
   Lift.store s0u1 (Sl.toV v_6) h0u11 fun h0u12 =>
   K0u1 h0u12
  ) (fun h0u9 =>
   Lift.load Sl.toV s0u1 h0u9 fun v_7 =>
   Q v_7 h0u9
  ) h0u7
  )
def slices_Collect_int (seq : FnV) (h : Heap) (Q : Sl → Heap → Prop) : Prop :=
  slices_AppendSeq_int_int Sl.nil seq h fun v h0 =>
  Q v h0
def cmp_isNaN_int (x0 : Int) (h : Heap) (Q : Bool → Heap → Prop) : Prop :=
  Q (x0 != x0) h
def cmp_Compare_int (x0 : Int) (y : Int) (h : Heap) (Q : Int → Heap → Prop) : Prop :=
  cmp_isNaN_int x0 h fun v h0 =>
  cmp_isNaN_int y h0 fun v_1 h0u1 =>
  iteB v (
   iteB v_1 (
    Q 0 h0u1
   ) (
    Q (-1) h0u1
   )
  ) (
   iteB v_1 (
    Q 1 h0u1
   ) (
    iteB (decide (x0 < y)) (
     Q (-1) h0u1
    ) (
     iteB (decide (x0 > y)) (
      Q 1 h0u1
     ) (
      Q 0 h0u1
     )
    )
   )
  )
def cmp_Or_int (vals : Sl) (h : Heap) (Q : Int → Heap → Prop) : Prop :=
  loop (fun (s0 : Int) h0 (K0 : Int → Heap → Prop) =>
   iteB (decide (s0 < ((vals.len : Nat) : Int))) (
    idxS vals s0 1 fun a =>
    Lift.load (Value.int .i64) a h0 fun v =>
    iteB (v != 0) (
     Q v h0
    ) (
     K0 (IntKind.wrap .i64 (s0 + 1)) h0
    )
   ) (
    Q 0 h0
   )
  ) 0 h
def learn_order_c1 (a : Int) (b : Int) (c0 : Addr) (h : Heap) (Q : Int → Heap → Prop) : Prop :=
  loadS C_sl_sl_sl_sl_sl_sl_sl_i64 8 c0 h fun v =>
  loadS C_sl_sl_sl_sl_sl_sl_sl_i64 8 c0 h fun v_1 =>
  learn_at (v.1, v.2.1, v.2.2.1, v.2.2.2.1, v.2.2.2.2.1, v.2.2.2.2.2.1, v.2.2.2.2.2.2.1, v.2.2.2.2.2.2.2) b h fun v_2 h0 =>
  (cells? h0 c0 8 0 = some [Sl.toV v_1.1, Sl.toV v_1.2.1, Sl.toV v_1.2.2.1, Sl.toV v_1.2.2.2.1, Sl.toV v_1.2.2.2.2.1, Sl.toV v_1.2.2.2.2.2.1, Sl.toV v_1.2.2.2.2.2.2.1, Value.int .i64 v_1.2.2.2.2.2.2.2]) ∧
  learn_at (v_1.1, v_1.2.1, v_1.2.2.1, v_1.2.2.2.1, v_1.2.2.2.2.1, v_1.2.2.2.2.2.1, v_1.2.2.2.2.2.2.1, v_1.2.2.2.2.2.2.2) a h0 fun v_3 h0u1 =>
  cmp_Compare_int v_2 v_3 h0u1 fun v_4 h0u2 =>
  learn_truth a h0u2 fun v_5 h0u3 =>
  learn_truth b h0u3 fun v_6 h0u4 =>
  cmp_Compare_int v_5 v_6 h0u4 fun v_7 h0u5 =>
  new [Value.int .i64 v_4, Value.int .i64 v_7] h0u5 fun a_1 h0u6 =>
  cmp_Or_int (⟨some a_1, 2, 2⟩ : Sl) h0u6 fun v_9 h0u7 =>
  Q v_9 h0u7
def slices_SortFunc_int_int (x : Sl) (cmp : FnV) (h : Heap) (Q : Unit → Heap → Prop) : Prop :=
  ∃ c0 : Addr, cmp = FnV.mk 64 [] [Value.pointer (some c0)] ∧ sortP (fun a b h Q => learn_order_c1 a b c0 h Q) x h Q
def slices_SortedFunc_int (seq : FnV) (cmp : FnV) (h : Heap) (Q : Sl → Heap → Prop) : Prop :=
  slices_Collect_int seq h fun v h0 =>
  slices_SortFunc_int_int v cmp h0 fun v_1 h0u1 =>
  Q v h0u1
def learn_From_c1 (a : Int) (b : Int) (h : Heap) (Q : Int → Heap → Prop) : Prop :=
  learn_truth a h fun v h0 =>
  learn_truth b h0 fun v_1 h0u1 =>
  cmp_Compare_int v v_1 h0u1 fun v_2 h0u2 =>
  Q v_2 h0u2
def slices_SortFunc_int_int__learn_From_c1 (x : Sl) (h : Heap) (Q : Unit → Heap → Prop) : Prop := sortP (fun a b h Q => learn_From_c1 a b h Q) x h Q
def maps_Keys_map_int_bool_int_bool (m0 : (Option Nat)) (h : Heap) (Q : FnV → Heap → Prop) : Prop :=
  new [Value.map m0] h fun m0u1 h0 =>
  Q (FnV.mk 70 [] [Value.pointer (some m0u1)]) h0
def slices_Sort_int_int (x : Sl) (h : Heap) (Q : Unit → Heap → Prop) : Prop := sortI x h Q
def slices_Sorted_int (seq : FnV) (h : Heap) (Q : Sl → Heap → Prop) : Prop :=
  slices_Collect_int seq h fun v h0 =>
  slices_Sort_int_int v h0 fun v_1 h0u1 =>
  Q v h0u1
def learn_From (s0 : Sl × Sl × Sl × Sl × Sl × Sl × Sl × Int) (lits : Sl) (h : Heap) (Q : ((Sl × Int × Sl) × Int) → Heap → Prop) : Prop :=
  mem h fun h0 =>
  learn_ready (s0.1, s0.2.1, s0.2.2.1, s0.2.2.2.1, s0.2.2.2.2.1, s0.2.2.2.2.2.1, s0.2.2.2.2.2.2.1, s0.2.2.2.2.2.2.2) lits h0 fun v h0u1 =>
  iteB (!v) (
   Q ((Sl.nil, 0, Sl.nil), 1) h0u1
  ) (
   newM h0u1 fun v_1 h0u2 =>
   newM h0u2 fun v_2 h0u3 =>
   new [Sl.toV s0.1, Sl.toV s0.2.1, Sl.toV s0.2.2.1, Sl.toV s0.2.2.2.1, Sl.toV s0.2.2.2.2.1, Sl.toV s0.2.2.2.2.2.1, Sl.toV s0.2.2.2.2.2.2.1, Value.int .i64 s0.2.2.2.2.2.2.2, Value.map v_1, Value.map v_2, Value.int .i64 0] h0u3 fun a h0u4 =>
   loop (fun (s0u1 : Int) h0u5 (K0 : Int → Heap → Prop) =>
    iteB (decide (s0u1 < ((lits.len : Nat) : Int))) (
     idxS lits s0u1 1 fun a_1 =>
     Lift.load (Value.int .i64) a_1 h0u5 fun v_3 =>
     learn_work_put (some a) v_3 h0u5 fun v_4 h0u6 =>
     K0 (IntKind.wrap .i64 (s0u1 + 1)) h0u6
    ) (
     learn_work_resolve (some a) h0u5 fun v_5 h0u7 =>
     iteB (!v_5) (
      Q ((Sl.nil, 0, Sl.nil), 1) h0u7
     ) (
      Lift.load Value.map (a.add 8) h0u7 fun v_6 =>
      maps_Values_map_int_int_int_int v_6 h0u7 fun v_7 h0u8 =>
      learn_order (s0.1, s0.2.1, s0.2.2.1, s0.2.2.2.1, s0.2.2.2.2.1, s0.2.2.2.2.2.1, s0.2.2.2.2.2.2.1, s0.2.2.2.2.2.2.2) h0u8 fun v_8 h0u9 =>
      slices_SortedFunc_int v_7 v_8 h0u9 fun v_9 h0u10 =>
      seq (fun (K0u1 : Unit → Heap → Prop) =>
       iteB (decide (((v_9.len : Nat) : Int) > 2)) (
        sliceOf v_9 (some 2) none none 1 fun v_10 =>
        slices_SortFunc_int_int__learn_From_c1 v_10 h0u10 fun v_11 h0u12 =>
        K0u1 () h0u12
       ) (
        K0u1 () h0u10
       )
      ) (fun t0 h0u11 =>
       sliceOf v_9 (some 1) none none 1 fun v_12 =>
       Lift.load Value.map (a.add 9) h0u11 fun v_13 =>
       learn_Level (s0.1, s0.2.1, s0.2.2.1, s0.2.2.2.1, s0.2.2.2.2.1, s0.2.2.2.2.2.1, s0.2.2.2.2.2.2.1, s0.2.2.2.2.2.2.2) v_12 h0u11 fun v_14 h0u13 =>
       (cell? h0u13 (a.add 9) = some (Value.map v_13)) ∧
       maps_Keys_map_int_bool_int_bool v_13 h0u13 fun v_15 h0u14 =>
       slices_Sorted_int v_15 h0u14 fun v_16 h0u15 =>
       Q ((v_9, v_14, v_16), 0) h0u15
      )
     )
    )
   ) 0 h0u4
  )
def ref18uSameInts (a : Sl) (b : Sl) (h : Heap) (Q : Bool → Heap → Prop) : Prop :=
  iteB (((a.len : Nat) : Int) != ((b.len : Nat) : Int)) (
   Q false h
  ) (
   loop (fun (s0 : Int) h0 (K0 : Int → Heap → Prop) =>
    iteB (decide (s0 < ((a.len : Nat) : Int))) (
     idxS a s0 1 fun a_1 =>
     Lift.load (Value.int .i64) a_1 h0 fun v =>
     idxS b s0 1 fun a_2 =>
     Lift.load (Value.int .i64) a_2 h0 fun v_1 =>
     iteB (v != v_1) (
      Q false h0
     ) (
      Let (IntKind.wrap .i64 (s0 + 1) : Int) fun i =>
      K0 i h0
     )
    ) (
     Q true h0
    )
   ) 0 h
  )
def law19uspeaks (h : Heap) (Q : Bool → Heap → Prop) : Prop :=
  clause_New 3 h fun v h0 =>
  new [Sl.toV Sl.nil, Sl.toV Sl.nil, Sl.toV Sl.nil, Sl.toV Sl.nil, Sl.toV Sl.nil, Sl.toV Sl.nil, Sl.toV Sl.nil, Value.int .i64 0] h0 fun s0 h0u1 =>
  storeS s0 [Sl.toV v.1, Sl.toV v.2.1, Sl.toV v.2.2.1, Sl.toV v.2.2.2.1, Sl.toV v.2.2.2.2.1, Sl.toV v.2.2.2.2.2.1, Sl.toV v.2.2.2.2.2.2.1, Value.int .i64 v.2.2.2.2.2.2.2] h0u1 fun h0u2 =>
  new [Value.int .i64 (-2), Value.int .i64 3] h0u2 fun a h0u3 =>
  clause_Add (some s0) (⟨some a, 2, 2⟩ : Sl) false h0u3 fun v_2 h0u4 =>
  clause_Decide (some s0) 1 h0u4 fun v_3 h0u5 =>
  clause_Run (some s0) h0u5 fun v_4 h0u6 =>
  clause_Decide (some s0) 2 h0u6 fun v_5 h0u7 =>
  clause_Run (some s0) h0u7 fun v_6 h0u8 =>
  loadS C_sl_sl_sl_sl_sl_sl_sl_i64 8 s0 h0u8 fun v_7 =>
  new [Value.int .i64 (-1), Value.int .i64 (-3), Value.int .i64 (-2)] h0u8 fun a_1 h0u9 =>
  learn_From (v_7.1, v_7.2.1, v_7.2.2.1, v_7.2.2.2.1, v_7.2.2.2.2.1, v_7.2.2.2.2.2.1, v_7.2.2.2.2.2.2.1, v_7.2.2.2.2.2.2.2) (⟨some a_1, 3, 3⟩ : Sl) h0u9 fun v_9 h0u10 =>
  mem h0u10 fun h0u11 =>
  loadS C_sl_sl_sl_sl_sl_sl_sl_i64 8 s0 h0u11 fun v_10 =>
  learn_From (v_10.1, v_10.2.1, v_10.2.2.1, v_10.2.2.2.1, v_10.2.2.2.2.1, v_10.2.2.2.2.2.1, v_10.2.2.2.2.2.2.1, v_10.2.2.2.2.2.2.2) Sl.nil h0u11 fun v_11 h0u12 =>
  mem h0u12 fun h0u13 =>
  seq (fun (K0 : Bool → Heap → Prop) =>
   iteB (v_9.2 == 0) (
    new [Value.int .i64 (-2), Value.int .i64 (-1)] h0u13 fun a_2 h0u15 =>
    ref18uSameInts v_9.1.1 (⟨some a_2, 2, 2⟩ : Sl) h0u15 fun v_13 h0u16 =>
    iteB v_13 (
     iteB (v_9.1.2.1 == 1) (
      K0 (v_11.2 == 1) h0u16
     ) (
      K0 false h0u16
     )
    ) (
     K0 false h0u16
    )
   ) (
    K0 false h0u13
   )
  ) (fun t0 h0u14 =>
   Q t0 h0u14
  )
def law18uGreat (list : Sl) (h : Heap) (Q : Bool → Heap → Prop) : Prop :=
  iteB (decide (((list.len : Nat) : Int) > 60)) (
   Q true h
  ) (
   loop (fun (s0 : Int) h0 (K0 : Int → Heap → Prop) =>
    iteB (decide (s0 < ((list.len : Nat) : Int))) (
     idxS list s0 1 fun a =>
     Lift.load Sl.toV a h0 fun v =>
     iteB (decide (((v.len : Nat) : Int) > 20)) (
      Q true h0
     ) (
      K0 (IntKind.wrap .i64 (s0 + 1)) h0
     )
    ) (
     Q false h0
    )
   ) 0 h
  )
def ref18uThere (n : Int) (lit : Int) (h : Heap) (Q : Bool → Heap → Prop) : Prop :=
  seq (fun (K0 : Bool → Heap → Prop) =>
   iteB (decide (lit ≥ 1)) (
    iteB (decide (lit ≤ n)) (
     K0 true h
    ) (
     iteB (decide (lit ≤ (-1))) (
      K0 (decide (lit ≥ (IntKind.wrap .i64 (0 - n)))) h
     ) (
      K0 false h
     )
    )
   ) (
    iteB (decide (lit ≤ (-1))) (
     K0 (decide (lit ≥ (IntKind.wrap .i64 (0 - n)))) h
    ) (
     K0 false h
    )
   )
  ) (fun t0 h0 =>
   Q t0 h0
  )
def ref18uTruth (lit : Int) (h : Heap) (Q : Int → Heap → Prop) : Prop :=
  iteB (decide (lit < 0)) (
   Q (IntKind.wrap .i64 ((IntKind.wrap .i64 (0 - lit)) - 1)) h
  ) (
   Q (IntKind.wrap .i64 (lit - 1)) h
  )
def ref18uSign (lit : Int) (h : Heap) (Q : Int → Heap → Prop) : Prop :=
  iteB (decide (lit < 0)) (
   Q (-1) h
  ) (
   Q 1 h
  )
def ref18uValue (value : Sl) (lit : Int) (h : Heap) (Q : Int → Heap → Prop) : Prop :=
  ref18uThere ((value.len : Nat) : Int) lit h fun v h0 =>
  iteB (!v) (
   Q 0 h0
  ) (
   ref18uTruth lit h0 fun v_1 h0u1 =>
   idxS value v_1 1 fun a =>
   Lift.load (Value.int .i64) a h0u1 fun v_2 =>
   ref18uSign lit h0u1 fun v_3 h0u2 =>
   (cell? h0u2 a = some (Value.int .i64 v_2)) ∧
   Q (IntKind.wrap .i64 (v_2 * v_3)) h0u2
  )
def ref18uFalse (value : Sl) (lits : Sl) (h : Heap) (Q : Bool → Heap → Prop) : Prop :=
  loop (fun (s0 : Int) h0 (K0 : Int → Heap → Prop) =>
   iteB (decide (s0 < ((lits.len : Nat) : Int))) (
    idxS lits s0 1 fun a =>
    Lift.load (Value.int .i64) a h0 fun v =>
    ref18uValue value v h0 fun v_1 h0u1 =>
    iteB (decide (v_1 ≥ 0)) (
     Q false h0u1
    ) (
     Let (IntKind.wrap .i64 (s0 + 1) : Int) fun k =>
     K0 k h0u1
    )
   ) (
    Q true h0
   )
  ) 0 h
def ref18uClose (value : Sl) (clauses : Sl) (h : Heap) (Q : (Sl × Bool) → Heap → Prop) : Prop :=
  new [] h fun a h0 =>
  appendS 1 8 (⟨some a, 0, 0⟩ : Sl) value h0 fun v_1 h0u1 =>
  loop (fun (s0 : Bool) h0u2 (K0 : Bool → Heap → Prop) =>
   iteB s0 (
    loop (fun (s0u1 : Bool × Int) h0u3 (K0u1 : (Bool × Int) → Heap → Prop) =>
     iteB (decide (s0u1.2 < ((clauses.len : Nat) : Int))) (
      seq (fun (K0u2 : Bool → Heap → Prop) =>
       loop (fun (s0u2 : Int × Int × Bool × Int) h0u5 (K0u3 : (Int × Int × Bool × Int) → Heap → Prop) =>
        idxS clauses s0u1.2 3 fun a_1 =>
        Lift.load Sl.toV (a_1.add 0) h0u5 fun v_2 =>
        iteB (decide (s0u2.2.2.2 < ((v_2.len : Nat) : Int))) (
         seq (fun (K0u4 : (Int × Int × Bool) → Heap → Prop) =>
          idxS clauses s0u1.2 3 fun a_2 =>
          Lift.load Sl.toV (a_2.add 0) h0u5 fun v_3 =>
          idxS v_3 s0u2.2.2.2 1 fun a_3 =>
          Lift.load (Value.int .i64) a_3 h0u5 fun v_4 =>
          ref18uValue v_1 v_4 h0u5 fun v_5 h0u7 =>
          seq (fun (K0u5 : Bool → Heap → Prop) =>
           iteB (decide (v_5 > 0)) (
            K0u5 true h0u7
           ) (
            K0u5 s0u2.2.2.1 h0u7
           )
          ) (fun t0u2 h0u8 =>
           iteB (v_5 == 0) (
            Let (IntKind.wrap .i64 (s0u2.1 + 1) : Int) fun free =>
            K0u4 (free, v_4, t0u2) h0u8
           ) (
            K0u4 (s0u2.1, s0u2.2.1, t0u2) h0u8
           )
          )
         ) (fun t0u1 h0u6 =>
          Let (IntKind.wrap .i64 (s0u2.2.2.2 + 1) : Int) fun k =>
          K0u3 (t0u1.1, t0u1.2.1, t0u1.2.2, k) h0u6
         )
        ) (
         seq (fun (K0u6 : Bool → Heap → Prop) =>
          iteB s0u2.2.2.1 (
           K0u6 true h0u5
          ) (
           K0u6 (decide (s0u2.1 > 1)) h0u5
          )
         ) (fun t0u3 h0u9 =>
          iteB t0u3 (
           K0u2 s0u1.1 h0u9
          ) (
           iteB (s0u2.1 == 0) (
            Q (v_1, true) h0u9
           ) (
            ref18uTruth s0u2.2.1 h0u9 fun v_6 h0u10 =>
            ref18uSign s0u2.2.1 h0u10 fun v_7 h0u11 =>
            idxS v_1 v_6 1 fun a_4 =>
            Lift.store a_4 (Value.int .i64 v_7) h0u11 fun h0u12 =>
            K0u2 true h0u12
           )
          )
         )
        )
       ) (0, 0, false, 0) h0u3
      ) (fun t0 h0u4 =>
       Let (IntKind.wrap .i64 (s0u1.2 + 1) : Int) fun i =>
       K0u1 (t0, i) h0u4
      )
     ) (
      K0 s0u1.1 h0u3
     )
    ) (false, 0) h0u2
   ) (
    Q (v_1, false) h0u2
   )
  ) true h0u1
def clause_Back (s0 : (Option Addr)) (level : Int) (h : Heap) (Q : Sl → Heap → Prop) : Prop :=
  new [Value.pointer s0] h fun s0u1 h0 =>
  new [Sl.toV Sl.nil] h0 fun out h0u1 =>
  Let ((if 0 > level then 0 else level) : Int) fun level_1 =>
  Lift.load Value.pointer s0u1 h0u1 fun v =>
  nilChk v fun a =>
  Lift.load Sl.toV (a.add 6) h0u1 fun v_1 =>
  iteB (decide (level_1 ≥ ((v_1.len : Nat) : Int))) (
   Lift.store out (Sl.toV Sl.nil) h0u1 fun h0u2 =>
   Lift.load Sl.toV out h0u2 fun r =>
   Q r h0u2
  ) (
   Lift.load Value.pointer s0u1 h0u1 fun v_2 =>
   nilChk v_2 fun a_1 =>
   Lift.load Sl.toV (a_1.add 6) h0u1 fun v_3 =>
   idxS v_3 level_1 1 fun a_2 =>
   Lift.load (Value.int .i64) a_2 h0u1 fun v_4 =>
   Lift.load Value.pointer s0u1 h0u1 fun v_5 =>
   nilChk v_5 fun a_3 =>
   Lift.load Sl.toV (a_3.add 5) h0u1 fun v_6 =>
   sliceOf v_6 (some v_4) none none 1 fun v_7 =>
   slices_Backward_int_int v_7 h0u1 fun v_8 h0u3 =>
   ∃ (c0 : Addr), v_8 = FnV.mk 71 [] [Value.pointer (some c0)] ∧
   mem h0u3 fun h0u4 =>
   backL c0 1 (fun a h k => Lift.load (Value.int .i64) a h k) (fun (i : Int) (x0 : Int) h0u5 K0 =>
    clause_truth x0 h0u5 fun v_9 h0u7 =>
    Lift.load Value.pointer s0u1 h0u7 fun v_10 =>
    nilChk v_10 fun a_4 =>
    Lift.load Sl.toV (a_4.add 2) h0u7 fun v_11 =>
    Lift.load Value.pointer s0u1 h0u7 fun v_12 =>
    nilChk v_12 fun a_5 =>
    Lift.load Sl.toV (a_5.add 3) h0u7 fun v_13 =>
    Lift.load Value.pointer s0u1 h0u7 fun v_14 =>
    nilChk v_14 fun a_6 =>
    Lift.load Sl.toV (a_6.add 4) h0u7 fun v_15 =>
    idxS v_11 v_9 1 fun a_7 =>
    Lift.store a_7 (Value.int .i64 0) h0u7 fun h0u8 =>
    idxS v_13 v_9 1 fun a_8 =>
    Lift.store a_8 (Value.int .i64 0) h0u8 fun h0u9 =>
    idxS v_15 v_9 1 fun a_9 =>
    Lift.store a_9 (Value.int .i64 (-1)) h0u9 fun h0u10 =>
    Lift.load Sl.toV out h0u10 fun v_16 =>
    new [Value.int .i64 x0] h0u10 fun a_10 h0u11 =>
    appendS 1 8 v_16 (⟨some a_10, 1, 1⟩ : Sl) h0u11 fun v_18 h0u12 =>
    Lift.store out (Sl.toV v_18) h0u12 fun h0u13 =>
    K0 h0u13
   ) (fun h0u6 =>
    Lift.load Value.pointer s0u1 h0u6 fun v_19 =>
    Lift.load Value.pointer s0u1 h0u6 fun v_20 =>
    Lift.load Value.pointer s0u1 h0u6 fun v_21 =>
    nilChk v_21 fun a_11 =>
    Lift.load Sl.toV (a_11.add 5) h0u6 fun v_22 =>
    sliceOf v_22 none (some v_4) none 1 fun v_23 =>
    Lift.load Value.pointer s0u1 h0u6 fun v_24 =>
    nilChk v_24 fun a_12 =>
    Lift.load Sl.toV (a_12.add 6) h0u6 fun v_25 =>
    sliceOf v_25 none (some level_1) none 1 fun v_26 =>
    nilChk v_19 fun a_13 =>
    Lift.store (a_13.add 5) (Sl.toV v_23) h0u6 fun h0u14 =>
    (cell? h0u14 s0u1 = some (Value.pointer v_20)) ∧
    nilChk v_20 fun a_14 =>
    Lift.store (a_14.add 6) (Sl.toV v_26) h0u14 fun h0u15 =>
    Lift.load Value.pointer s0u1 h0u15 fun v_27 =>
    Lift.load Value.pointer s0u1 h0u15 fun v_28 =>
    nilChk v_28 fun a_15 =>
    Lift.load (Value.int .i64) (a_15.add 7) h0u15 fun v_29 =>
    nilChk v_27 fun a_16 =>
    Lift.store (a_16.add 7) (Value.int .i64 (if v_4 < v_29 then v_4 else v_29)) h0u15 fun h0u16 =>
    Lift.load Sl.toV out h0u16 fun v_30 =>
    Lift.store out (Sl.toV v_30) h0u16 fun h0u17 =>
    Lift.load Sl.toV out h0u17 fun r_1 =>
    Q r_1 h0u17
   ) h0u4
  )
def ref18uFits (n : Int) (lits : Sl) (h : Heap) (Q : Bool → Heap → Prop) : Prop :=
  loop (fun (s0 : Int) h0 (K0 : Int → Heap → Prop) =>
   iteB (decide (s0 < ((lits.len : Nat) : Int))) (
    idxS lits s0 1 fun a =>
    Lift.load (Value.int .i64) a h0 fun v =>
    ref18uThere n v h0 fun v_1 h0u1 =>
    iteB (!v_1) (
     Q false h0u1
    ) (
     loop (fun (s0u1 : Int) h0u2 (K0u1 : Int → Heap → Prop) =>
      iteB (decide (s0u1 < s0)) (
       idxS lits s0u1 1 fun a_1 =>
       Lift.load (Value.int .i64) a_1 h0u2 fun v_2 =>
       idxS lits s0 1 fun a_2 =>
       Lift.load (Value.int .i64) a_2 h0u2 fun v_3 =>
       ref18uTruth v_2 h0u2 fun v_4 h0u3 =>
       (cell? h0u3 a_2 = some (Value.int .i64 v_3)) ∧
       ref18uTruth v_3 h0u3 fun v_5 h0u4 =>
       iteB (v_4 == v_5) (
        Q false h0u4
       ) (
        Let (IntKind.wrap .i64 (s0u1 + 1) : Int) fun k =>
        K0u1 k h0u4
       )
      ) (
       Let (IntKind.wrap .i64 (s0 + 1) : Int) fun i =>
       K0 i h0u2
      )
     ) 0 h0u1
    )
   ) (
    Q (decide (((lits.len : Nat) : Int) ≥ 2)) h0
   )
  ) 0 h
def ref18ucount (l : Sl) (x0 : Int) (h : Heap) (Q : Int → Heap → Prop) : Prop :=
  loop (fun (s0 : Int × Int) h0 (K0 : (Int × Int) → Heap → Prop) =>
   iteB (decide (s0.2 < ((l.len : Nat) : Int))) (
    seq (fun (K0u1 : Int → Heap → Prop) =>
     idxS l s0.2 1 fun a =>
     Lift.load (Value.int .i64) a h0 fun v =>
     iteB (v == x0) (
      Let (IntKind.wrap .i64 (s0.1 + 1) : Int) fun n =>
      K0u1 n h0
     ) (
      K0u1 s0.1 h0
     )
    ) (fun t0 h0u1 =>
     Let (IntKind.wrap .i64 (s0.2 + 1) : Int) fun i =>
     K0 (t0, i) h0u1
    )
   ) (
    Q s0.1 h0
   )
  ) (0, 0) h
def ref18uRight (s0 : Sl × Sl × Sl × Sl × Sl × Sl × Sl × Int) (h : Heap) (Q : Bool → Heap → Prop) : Prop :=
  mem h fun h0 =>
  Let (((s0.2.2.1.len : Nat) : Int) : Int) fun n =>
  seq (fun (K0 : Bool → Heap → Prop) =>
   iteB (((s0.2.1.len : Nat) : Int) != (IntKind.wrap .i64 (2 * n))) (
    K0 true h0
   ) (
    iteB (((s0.2.2.2.1.len : Nat) : Int) != n) (
     K0 true h0
    ) (
     iteB (((s0.2.2.2.2.1.len : Nat) : Int) != n) (
      K0 true h0
     ) (
      iteB (decide (s0.2.2.2.2.2.2.2 < 0)) (
       K0 true h0
      ) (
       K0 (decide (s0.2.2.2.2.2.2.2 > ((s0.2.2.2.2.2.1.len : Nat) : Int))) h0
      )
     )
    )
   )
  ) (fun t0 h0u1 =>
   iteB t0 (
    Q false h0u1
   ) (
    loop (fun (s0u1 : Int × Int) h0u2 (K0u1 : (Int × Int) → Heap → Prop) =>
     iteB (decide (s0u1.2 < ((s0.2.1.len : Nat) : Int))) (
      idxS s0.2.1 s0u1.2 1 fun a =>
      Lift.load Sl.toV a h0u2 fun v =>
      Let (IntKind.wrap .i64 (s0u1.1 + ((v.len : Nat) : Int)) : Int) fun total =>
      Let (IntKind.wrap .i64 (s0u1.2 + 1) : Int) fun w0 =>
      K0u1 (total, w0) h0u2
     ) (
      iteB (s0u1.1 != (IntKind.wrap .i64 (2 * ((s0.1.len : Nat) : Int)))) (
       Q false h0u2
      ) (
       loop (fun (s0u2 : Int) h0u3 (K0u2 : Int → Heap → Prop) =>
        iteB (decide (s0u2 < ((s0.1.len : Nat) : Int))) (
         idxS s0.1 s0u2 3 fun a_1 =>
         loadS C_sl_bool_i64 3 a_1 h0u3 fun v_1 =>
         mem h0u3 fun h0u4 =>
         seq (fun (K0u3 : Bool → Heap → Prop) =>
          iteB (decide (v_1.2.2 < 0)) (
           K0u3 true h0u4
          ) (
           ref18uFits n v_1.1 h0u4 fun v_2 h0u6 =>
           K0u3 (!v_2) h0u6
          )
         ) (fun t0u1 h0u5 =>
          iteB t0u1 (
           Q false h0u5
          ) (
           loop (fun (s0u3 : Int) h0u7 (K0u4 : Int → Heap → Prop) =>
            iteB (decide (s0u3 < 2)) (
             idxS v_1.1 s0u3 1 fun a_2 =>
             Lift.load (Value.int .i64) a_2 h0u7 fun v_3 =>
             ref18uTruth v_3 h0u7 fun v_4 h0u8 =>
             Let (IntKind.wrap .i64 (2 * v_4) : Int) fun w0u1 =>
             seq (fun (K0u5 : Int → Heap → Prop) =>
              idxS v_1.1 s0u3 1 fun a_3 =>
              Lift.load (Value.int .i64) a_3 h0u8 fun v_5 =>
              iteB (decide (v_5 < 0)) (
               Let (IntKind.wrap .i64 (w0u1 + 1) : Int) fun w0u2 =>
               K0u5 w0u2 h0u8
              ) (
               K0u5 w0u1 h0u8
              )
             ) (fun t0u2 h0u9 =>
              idxS s0.2.1 t0u2 1 fun a_4 =>
              Lift.load Sl.toV a_4 h0u9 fun v_6 =>
              ref18ucount v_6 s0u2 h0u9 fun v_7 h0u10 =>
              iteB (v_7 != 1) (
               Q false h0u10
              ) (
               Let (IntKind.wrap .i64 (s0u3 + 1) : Int) fun k =>
               K0u4 k h0u10
              )
             )
            ) (
             Let (IntKind.wrap .i64 (s0u2 + 1) : Int) fun i =>
             K0u2 i h0u7
            )
           ) 0 h0u5
          )
         )
        ) (
         mkS [Value.int .i64 0] 8 n n h0u3 fun v_8 h0u11 =>
         loop (fun (s0u4 : Int) h0u12 (K0u6 : Int → Heap → Prop) =>
          iteB (decide (s0u4 < n)) (
           idxS v_8 s0u4 1 fun a_5 =>
           Lift.store a_5 (Value.int .i64 (-1)) h0u12 fun h0u13 =>
           Let (IntKind.wrap .i64 (s0u4 + 1) : Int) fun v_9 =>
           K0u6 v_9 h0u13
          ) (
           loop (fun (s0u5 : Int) h0u14 (K0u7 : Int → Heap → Prop) =>
            iteB (decide (s0u5 < ((s0.2.2.2.2.2.1.len : Nat) : Int))) (
             idxS s0.2.2.2.2.2.1 s0u5 1 fun a_6 =>
             Lift.load (Value.int .i64) a_6 h0u14 fun v_10 =>
             seq (fun (K0u8 : Bool → Heap → Prop) =>
              ref18uThere n v_10 h0u14 fun v_11 h0u16 =>
              iteB (!v_11) (
               K0u8 true h0u16
              ) (
               ref18uTruth v_10 h0u16 fun v_12 h0u17 =>
               idxS v_8 v_12 1 fun a_7 =>
               Lift.load (Value.int .i64) a_7 h0u17 fun v_13 =>
               iteB (decide (v_13 ≥ 0)) (
                K0u8 true h0u17
               ) (
                ref18uTruth v_10 h0u17 fun v_14 h0u18 =>
                idxS s0.2.2.1 v_14 1 fun a_8 =>
                Lift.load (Value.int .i64) a_8 h0u18 fun v_15 =>
                ref18uSign v_10 h0u18 fun v_16 h0u19 =>
                (cell? h0u19 a_8 = some (Value.int .i64 v_15)) ∧
                K0u8 (v_15 != v_16) h0u19
               )
              )
             ) (fun t0u3 h0u15 =>
              iteB t0u3 (
               Q false h0u15
              ) (
               ref18uTruth v_10 h0u15 fun v_17 h0u20 =>
               idxS v_8 v_17 1 fun a_9 =>
               Lift.store a_9 (Value.int .i64 s0u5) h0u20 fun h0u21 =>
               loop (fun (s0u6 : Int) h0u22 (K0u9 : Int → Heap → Prop) =>
                seq (fun (K0u10 : Bool → Heap → Prop) =>
                 iteB (decide (s0u6 < ((s0.2.2.2.2.2.2.1.len : Nat) : Int))) (
                  idxS s0.2.2.2.2.2.2.1 s0u6 1 fun a_10 =>
                  Lift.load (Value.int .i64) a_10 h0u22 fun v_18 =>
                  K0u10 (decide (v_18 ≤ s0u5)) h0u22
                 ) (
                  K0u10 false h0u22
                 )
                ) (fun t0u4 h0u23 =>
                 iteB t0u4 (
                  Let (IntKind.wrap .i64 (s0u6 + 1) : Int) fun level =>
                  K0u9 level h0u23
                 ) (
                  ref18uTruth v_10 h0u23 fun v_19 h0u24 =>
                  idxS s0.2.2.2.1 v_19 1 fun a_11 =>
                  Lift.load (Value.int .i64) a_11 h0u24 fun v_20 =>
                  iteB (v_20 != s0u6) (
                   Q false h0u24
                  ) (
                   Let (IntKind.wrap .i64 (s0u5 + 1) : Int) fun i_1 =>
                   K0u7 i_1 h0u24
                  )
                 )
                )
               ) 0 h0u21
              )
             )
            ) (
             loop (fun (s0u7 : Int) h0u25 (K0u11 : Int → Heap → Prop) =>
              iteB (decide (s0u7 < ((s0.2.2.2.2.2.2.1.len : Nat) : Int))) (
               idxS s0.2.2.2.2.2.2.1 s0u7 1 fun a_12 =>
               Lift.load (Value.int .i64) a_12 h0u25 fun v_21 =>
               seq (fun (K0u12 : Bool → Heap → Prop) =>
                iteB (decide (v_21 < 0)) (
                 K0u12 true h0u25
                ) (
                 iteB (decide (v_21 ≥ ((s0.2.2.2.2.2.1.len : Nat) : Int))) (
                  K0u12 true h0u25
                 ) (
                  iteB (decide (s0u7 > 0)) (
                   idxS s0.2.2.2.2.2.2.1 (IntKind.wrap .i64 (s0u7 - 1)) 1 fun a_13 =>
                   Lift.load (Value.int .i64) a_13 h0u25 fun v_22 =>
                   iteB (decide (v_21 ≤ v_22)) (
                    K0u12 true h0u25
                   ) (
                    idxS s0.2.2.2.2.2.1 v_21 1 fun a_14 =>
                    Lift.load (Value.int .i64) a_14 h0u25 fun v_23 =>
                    ref18uTruth v_23 h0u25 fun v_24 h0u27 =>
                    idxS s0.2.2.2.2.1 v_24 1 fun a_15 =>
                    Lift.load (Value.int .i64) a_15 h0u27 fun v_25 =>
                    K0u12 (v_25 != (-1)) h0u27
                   )
                  ) (
                   idxS s0.2.2.2.2.2.1 v_21 1 fun a_16 =>
                   Lift.load (Value.int .i64) a_16 h0u25 fun v_26 =>
                   ref18uTruth v_26 h0u25 fun v_27 h0u28 =>
                   idxS s0.2.2.2.2.1 v_27 1 fun a_17 =>
                   Lift.load (Value.int .i64) a_17 h0u28 fun v_28 =>
                   K0u12 (v_28 != (-1)) h0u28
                  )
                 )
                )
               ) (fun t0u5 h0u26 =>
                iteB t0u5 (
                 Q false h0u26
                ) (
                 Let (IntKind.wrap .i64 (s0u7 + 1) : Int) fun i_2 =>
                 K0u11 i_2 h0u26
                )
               )
              ) (
               loop (fun (s0u8 : Int) h0u29 (K0u13 : Int → Heap → Prop) =>
                iteB (decide (s0u8 < n)) (
                 seq (fun (K0u14 : Unit → Heap → Prop) =>
                  seq (fun (K0u15 : Bool → Heap → Prop) =>
                   idxS v_8 s0u8 1 fun a_18 =>
                   Lift.load (Value.int .i64) a_18 h0u29 fun v_29 =>
                   iteB (decide (v_29 < 0)) (
                    idxS s0.2.2.1 s0u8 1 fun a_19 =>
                    Lift.load (Value.int .i64) a_19 h0u29 fun v_30 =>
                    iteB (v_30 != 0) (
                     K0u15 true h0u29
                    ) (
                     idxS s0.2.2.2.1 s0u8 1 fun a_20 =>
                     Lift.load (Value.int .i64) a_20 h0u29 fun v_31 =>
                     iteB (v_31 != 0) (
                      K0u15 true h0u29
                     ) (
                      idxS s0.2.2.2.2.1 s0u8 1 fun a_21 =>
                      Lift.load (Value.int .i64) a_21 h0u29 fun v_32 =>
                      K0u15 (v_32 != (-1)) h0u29
                     )
                    )
                   ) (
                    K0u15 false h0u29
                   )
                  ) (fun t0u7 h0u31 =>
                   iteB t0u7 (
                    Q false h0u31
                   ) (
                    idxS s0.2.2.2.2.1 s0u8 1 fun a_22 =>
                    Lift.load (Value.int .i64) a_22 h0u31 fun v_33 =>
                    iteB (v_33 == (-1)) (
                     K0u14 () h0u31
                    ) (
                     seq (fun (K0u16 : Bool → Heap → Prop) =>
                      iteB (decide (v_33 < 0)) (
                       K0u16 true h0u31
                      ) (
                       K0u16 (decide (v_33 ≥ ((s0.1.len : Nat) : Int))) h0u31
                      )
                     ) (fun t0u8 h0u32 =>
                      iteB t0u8 (
                       Q false h0u32
                      ) (
                       loop (fun (s0u9 : Bool × Int) h0u33 (K0u17 : (Bool × Int) → Heap → Prop) =>
                        idxS s0.1 v_33 3 fun a_23 =>
                        Lift.load Sl.toV (a_23.add 0) h0u33 fun v_34 =>
                        iteB (decide (s0u9.2 < ((v_34.len : Nat) : Int))) (
                         seq (fun (K0u18 : Bool → Heap → Prop) =>
                          idxS s0.1 v_33 3 fun a_24 =>
                          Lift.load Sl.toV (a_24.add 0) h0u33 fun v_35 =>
                          idxS v_35 s0u9.2 1 fun a_25 =>
                          Lift.load (Value.int .i64) a_25 h0u33 fun v_36 =>
                          ref18uTruth v_36 h0u33 fun v_37 h0u35 =>
                          iteB (v_37 == s0u8) (
                           idxS s0.2.2.1 s0u8 1 fun a_26 =>
                           Lift.load (Value.int .i64) a_26 h0u35 fun v_38 =>
                           ref18uSign v_36 h0u35 fun v_39 h0u36 =>
                           (cell? h0u36 a_26 = some (Value.int .i64 v_38)) ∧
                           K0u18 (v_39 == v_38) h0u36
                          ) (
                           seq (fun (K0u19 : Bool → Heap → Prop) =>
                            ref18uTruth v_36 h0u35 fun v_40 h0u38 =>
                            idxS v_8 v_40 1 fun a_27 =>
                            Lift.load (Value.int .i64) a_27 h0u38 fun v_41 =>
                            iteB (decide (v_41 < 0)) (
                             K0u19 true h0u38
                            ) (
                             idxS v_8 s0u8 1 fun a_28 =>
                             Lift.load (Value.int .i64) a_28 h0u38 fun v_42 =>
                             ref18uTruth v_36 h0u38 fun v_43 h0u39 =>
                             (cell? h0u39 a_28 = some (Value.int .i64 v_42)) ∧
                             idxS v_8 v_43 1 fun a_29 =>
                             Lift.load (Value.int .i64) a_29 h0u39 fun v_44 =>
                             iteB (decide (v_44 ≥ v_42)) (
                              K0u19 true h0u39
                             ) (
                              ref18uValue s0.2.2.1 v_36 h0u39 fun v_45 h0u40 =>
                              K0u19 (v_45 != (-1)) h0u40
                             )
                            )
                           ) (fun t0u10 h0u37 =>
                            iteB t0u10 (
                             Q false h0u37
                            ) (
                             K0u18 s0u9.1 h0u37
                            )
                           )
                          )
                         ) (fun t0u9 h0u34 =>
                          Let (IntKind.wrap .i64 (s0u9.2 + 1) : Int) fun k_1 =>
                          K0u17 (t0u9, k_1) h0u34
                         )
                        ) (
                         iteB (!s0u9.1) (
                          Q false h0u33
                         ) (
                          K0u14 () h0u33
                         )
                        )
                       ) (false, 0) h0u32
                      )
                     )
                    )
                   )
                  )
                 ) (fun t0u6 h0u30 =>
                  Let (IntKind.wrap .i64 (s0u8 + 1) : Int) fun v_46 =>
                  K0u13 v_46 h0u30
                 )
                ) (
                 Q true h0u29
                )
               ) 0 h0u25
              )
             ) 0 h0u14
            )
           ) 0 h0u12
          )
         ) 0 h0u11
        )
       ) 0 h0u2
      )
     )
    ) (0, 0) h0u1
   )
  )
def law19uLearnFollows (n : Int) (list : Sl) (decided : Sl) (h : Heap) (Q : Bool → Heap → Prop) : Prop :=
  law19uspeaks h fun v h0 =>
  iteB (!v) (
   Q false h0
  ) (
   seq (fun (K0 : Bool → Heap → Prop) =>
    iteB (decide (n < 0)) (
     K0 true h0
    ) (
     iteB (decide (n > 16)) (
      K0 true h0
     ) (
      law18uGreat list h0 fun v_1 h0u2 =>
      iteB v_1 (
       K0 true h0u2
      ) (
       K0 (decide (((decided.len : Nat) : Int) > 40)) h0u2
      )
     )
    )
   ) (fun t0 h0u1 =>
    iteB t0 (
     Q true h0u1
    ) (
     clause_New n h0u1 fun v_2 h0u3 =>
     new [Sl.toV Sl.nil, Sl.toV Sl.nil, Sl.toV Sl.nil, Sl.toV Sl.nil, Sl.toV Sl.nil, Sl.toV Sl.nil, Sl.toV Sl.nil, Value.int .i64 0] h0u3 fun s0 h0u4 =>
     storeS s0 [Sl.toV v_2.1, Sl.toV v_2.2.1, Sl.toV v_2.2.2.1, Sl.toV v_2.2.2.2.1, Sl.toV v_2.2.2.2.2.1, Sl.toV v_2.2.2.2.2.2.1, Sl.toV v_2.2.2.2.2.2.2.1, Value.int .i64 v_2.2.2.2.2.2.2.2] h0u4 fun h0u5 =>
     loop (fun (s0u1 : Int) h0u6 (K0u1 : Int → Heap → Prop) =>
      iteB (decide (s0u1 < ((list.len : Nat) : Int))) (
       idxS list s0u1 1 fun a =>
       Lift.load Sl.toV a h0u6 fun v_3 =>
       clause_Add (some s0) v_3 false h0u6 fun v_4 h0u7 =>
       K0u1 (IntKind.wrap .i64 (s0u1 + 1)) h0u7
      ) (
       loop (fun (s0u2 : Int) h0u8 (K0u2 : Int → Heap → Prop) =>
        iteB (decide (s0u2 < ((decided.len : Nat) : Int))) (
         seq (fun (K0u3 : Unit → Heap → Prop) =>
          idxS decided s0u2 1 fun a_1 =>
          Lift.load (Value.int .i64) a_1 h0u8 fun v_5 =>
          clause_Decide (some s0) v_5 h0u8 fun v_6 h0u10 =>
          iteB (!v_6) (
           K0u3 () h0u10
          ) (
           clause_Run (some s0) h0u10 fun v_7 h0u11 =>
           iteB (decide (v_7 < 0)) (
            K0u3 () h0u11
           ) (
            Lift.load Sl.toV (s0.add 0) h0u11 fun v_8 =>
            iteB (decide (v_7 ≥ ((v_8.len : Nat) : Int))) (
             Q false h0u11
            ) (
             seq (fun (K0u4 : (Int × Sl × Int × Sl) → Heap → Prop) =>
              loadS C_sl_sl_sl_sl_sl_sl_sl_i64 8 s0 h0u11 fun v_9 =>
              Lift.load Sl.toV (s0.add 0) h0u11 fun v_10 =>
              idxS v_10 v_7 3 fun a_2 =>
              Lift.load Sl.toV (a_2.add 0) h0u11 fun v_11 =>
              mem h0u11 fun h0u13 =>
              learn_From (v_9.1, v_9.2.1, v_9.2.2.1, v_9.2.2.2.1, v_9.2.2.2.2.1, v_9.2.2.2.2.2.1, v_9.2.2.2.2.2.2.1, v_9.2.2.2.2.2.2.2) v_11 h0u13 fun v_13 h0u16 =>
              mem h0u16 fun h0u17 =>
              K0u4 (v_13.2, v_13.1.1, v_13.1.2.1, v_13.1.2.2) h0u17
             ) (fun t0u2 h0u12 =>
              seq (fun (K0u5 : Bool → Heap → Prop) =>
               iteB (t0u2.1 != 0) (
                K0u5 true h0u12
               ) (
                iteB (((t0u2.2.1.len : Nat) : Int) == 0) (
                 K0u5 true h0u12
                ) (
                 Lift.load Sl.toV (s0.add 2) h0u12 fun v_14 =>
                 ref18uFalse v_14 t0u2.2.1 h0u12 fun v_15 h0u19 =>
                 K0u5 (!v_15) h0u19
                )
               )
              ) (fun t0u3 h0u18 =>
               iteB t0u3 (
                Q false h0u18
               ) (
                mkS [Value.int .i64 0] 8 n n h0u18 fun v_16 h0u20 =>
                loop (fun (s0u3 : Int) h0u21 (K0u6 : Int → Heap → Prop) =>
                 iteB (decide (s0u3 < ((t0u2.2.1.len : Nat) : Int))) (
                  idxS t0u2.2.1 s0u3 1 fun a_3 =>
                  Lift.load (Value.int .i64) a_3 h0u21 fun v_17 =>
                  ref18uTruth v_17 h0u21 fun v_18 h0u22 =>
                  ref18uSign v_17 h0u22 fun v_19 h0u23 =>
                  idxS v_16 v_18 1 fun a_4 =>
                  Lift.store a_4 (Value.int .i64 (IntKind.wrap .i64 (0 - v_19))) h0u23 fun h0u24 =>
                  K0u6 (IntKind.wrap .i64 (s0u3 + 1)) h0u24
                 ) (
                  Lift.load Sl.toV (s0.add 5) h0u21 fun v_20 =>
                  loop (fun (s0u4 : Int) h0u25 (K0u7 : Int → Heap → Prop) =>
                   iteB (decide (s0u4 < ((v_20.len : Nat) : Int))) (
                    seq (fun (K0u8 : Unit → Heap → Prop) =>
                     idxS v_20 s0u4 1 fun a_5 =>
                     Lift.load (Value.int .i64) a_5 h0u25 fun v_21 =>
                     seq (fun (K0u9 : Bool → Heap → Prop) =>
                      Lift.load Sl.toV (s0.add 6) h0u25 fun v_22 =>
                      iteB (decide (((v_22.len : Nat) : Int) > 0)) (
                       Lift.load Sl.toV (s0.add 6) h0u25 fun v_23 =>
                       idxS v_23 0 1 fun a_6 =>
                       Lift.load (Value.int .i64) a_6 h0u25 fun v_24 =>
                       K0u9 (decide (s0u4 < v_24)) h0u25
                      ) (
                       K0u9 false h0u25
                      )
                     ) (fun t0u5 h0u27 =>
                      iteB t0u5 (
                       ref18uTruth v_21 h0u27 fun v_25 h0u28 =>
                       ref18uSign v_21 h0u28 fun v_26 h0u29 =>
                       idxS v_16 v_25 1 fun a_7 =>
                       Lift.store a_7 (Value.int .i64 v_26) h0u29 fun h0u30 =>
                       K0u8 () h0u30
                      ) (
                       K0u8 () h0u27
                      )
                     )
                    ) (fun t0u4 h0u26 =>
                     K0u7 (IntKind.wrap .i64 (s0u4 + 1)) h0u26
                    )
                   ) (
                    Lift.load Sl.toV (s0.add 0) h0u25 fun v_27 =>
                    ref18uClose v_16 v_27 h0u25 fun v_28 h0u31 =>
                    iteB (!v_28.2) (
                     Q false h0u31
                    ) (
                     clause_Back (some s0) t0u2.2.2.1 h0u31 fun v_29 h0u32 =>
                     seq (fun (K0u10 : Bool → Heap → Prop) =>
                      loadS C_sl_sl_sl_sl_sl_sl_sl_i64 8 s0 h0u32 fun v_30 =>
                      idxS t0u2.2.1 0 1 fun a_8 =>
                      Lift.load (Value.int .i64) a_8 h0u32 fun v_31 =>
                      clause_Value (v_30.1, v_30.2.1, v_30.2.2.1, v_30.2.2.2.1, v_30.2.2.2.2.1, v_30.2.2.2.2.2.1, v_30.2.2.2.2.2.2.1, v_30.2.2.2.2.2.2.2) v_31 h0u32 fun v_32 h0u34 =>
                      iteB (v_32 != 0) (
                       K0u10 true h0u34
                      ) (
                       Lift.load Sl.toV (s0.add 2) h0u34 fun v_33 =>
                       sliceOf t0u2.2.1 (some 1) none none 1 fun v_34 =>
                       ref18uFalse v_33 v_34 h0u34 fun v_35 h0u35 =>
                       K0u10 (!v_35) h0u35
                      )
                     ) (fun t0u6 h0u33 =>
                      iteB t0u6 (
                       Q false h0u33
                      ) (
                       iteB (((t0u2.2.1.len : Nat) : Int) == 1) (
                        Q (t0u2.2.2.1 == 0) h0u33
                       ) (
                        clause_Add (some s0) t0u2.2.1 true h0u33 fun v_36 h0u36 =>
                        seq (fun (K0u11 : Bool → Heap → Prop) =>
                         iteB (v_36.2 != 0) (
                          K0u11 true h0u36
                         ) (
                          idxS t0u2.2.1 0 1 fun a_9 =>
                          Lift.load (Value.int .i64) a_9 h0u36 fun v_37 =>
                          clause_Tell (some s0) v_37 v_36.1 h0u36 fun v_38 h0u38 =>
                          iteB (!v_38) (
                           K0u11 true h0u38
                          ) (
                           loadS C_sl_sl_sl_sl_sl_sl_sl_i64 8 s0 h0u38 fun v_39 =>
                           ref18uRight (v_39.1, v_39.2.1, v_39.2.2.1, v_39.2.2.2.1, v_39.2.2.2.2.1, v_39.2.2.2.2.2.1, v_39.2.2.2.2.2.2.1, v_39.2.2.2.2.2.2.2) h0u38 fun v_40 h0u39 =>
                           K0u11 (!v_40) h0u39
                          )
                         )
                        ) (fun t0u7 h0u37 =>
                         iteB t0u7 (
                          Q false h0u37
                         ) (
                          new [] h0u37 fun a_10 h0u40 =>
                          Lift.load Sl.toV (s0.add 2) h0u40 fun v_42 =>
                          appendS 1 8 (⟨some a_10, 0, 0⟩ : Sl) v_42 h0u40 fun v_43 h0u41 =>
                          Lift.load Sl.toV (s0.add 0) h0u41 fun v_44 =>
                          ref18uClose v_43 v_44 h0u41 fun v_45 h0u42 =>
                          clause_Run (some s0) h0u42 fun v_46 h0u43 =>
                          iteB (!((decide (v_46 ≥ 0)) == v_45.2)) (
                           Q false h0u43
                          ) (
                           seq (fun (K0u12 : Bool → Heap → Prop) =>
                            iteB v_45.2 (
                             K0u12 true h0u43
                            ) (
                             Lift.load Sl.toV (s0.add 2) h0u43 fun v_47 =>
                             ref18uSameInts v_47 v_45.1 h0u43 fun v_48 h0u45 =>
                             K0u12 v_48 h0u45
                            )
                           ) (fun t0u8 h0u44 =>
                            Q t0u8 h0u44
                           )
                          )
                         )
                        )
                       )
                      )
                     )
                    )
                   )
                  ) 0 h0u21
                 )
                ) 0 h0u20
               )
              )
             )
            )
           )
          )
         ) (fun t0u1 h0u9 =>
          K0u2 (IntKind.wrap .i64 (s0u2 + 1)) h0u9
         )
        ) (
         Q true h0u8
        )
       ) 0 h0u6
      )
     ) 0 h0u5
    )
   )
  )
end Go.Sh

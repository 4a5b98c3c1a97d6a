/-
  For every input that Go's types allow, the law RatioMakes returns true and leaves each argument as it was. No condition.
-/
import Derived.Test.YtdcdidecehbplaaDoorRows
import Derived.Test.YtdcdidecehbplaaDoorLfB
import Derived.Test.YtdcdidecehbplaaDoorSpM
import Derived.Test.YtdcdidecehbplaaDoorOpA
import Derived.Test.YtdcdidecehbplaaDoorFwF
import Derived.Test.YtdcdidecehbplaaDoorTie
import Derived.Test.YtdcdidecehbplaaDoorCards
import Derived.SevenTiedAt
set_option linter.unusedVariables false
set_option linter.unusedSimpArgs false
namespace Go.Proofs.YtdcdidecehbplaaDoor.rowRatioMakes
open Go Go.Lift Go.Sh Go.ChangeShapes Go.WideShapes Go.ChangeAt Go.RowKit
open Go.ChangeMaps (open_string shut_string)
set_option linter.unusedVariables false
set_option linter.unusedSimpArgs false

theorem own : ownKnob Tryd.prog.godebug = none := by kernel_rfl
theorem laidOut : laidOutB Tryd.prog = true := by kernel_rfl

theorem walk (a0 : Int) (b1 : Bool) (x2 : Sl) (x3 : Sl) (a4 : Int) (x5 : X3) (w : World) (ht : RI .u8 w.heap ⟨some ⟨g_math_bits_deBruijn32tab, 0, none⟩, tab32.length, tab32.length⟩ tab32) (wf0 : (Lit.int .i64 a0).wf = true) (hx2 : RawN w.heap x2) (hx3 : RawN w.heap x3) (wf4 : (Lit.int .i64 a4).wf = true) (hx5 : Raw3 w.heap x5) :
    Calls Tryd.prog 10 #[.int .i64 a0, .bool b1, Sl.toV x2, Sl.toV x3, .int .i64 a4, .agg (C_bool_sl_sl x5).toArray] w fun e w' => e = .returned (.bool true) ∧ Below w.heap.size w w' := by
  refine (lift_law02uRatioMakes a0 b1 x2 x3 a4 x5 w w.heap (Rel.self _) (fun r h => r = true ∧ Ext w.heap h) ?_).mono fun e w' h => post_below h
  obtain ⟨ns, hn, hnl⟩ := hx2; obtain ⟨es, hd, hdl⟩ := hx3; obtain ⟨xs, ys, hX⟩ := hx5; exact RatioMakes_holds ht hn hnl hd hdl hX (wf_i64 wf4).1 (wf_i64 wf4).2 fun h' e => ⟨rfl, e⟩

theorem gVar : Tryd.prog.globalNamed "math/bits.deBruijn32tab" = some g_math_bits_deBruijn32tab := by kernel_rfl
theorem tVar : (Tryd.prog.globals[g_math_bits_deBruijn32tab]?).map (·.type) = some 171 := by kernel_rfl
theorem laidIs : Rows.ratioMakesRow.laid = [("math/bits.deBruijn32tab", .agg (tab32.map fun k : Nat => .lit (.int .u8 (k : Int))))] := rfl
theorem door_met (os : Os) (args : Array Value) : laidMetH Tryd.prog Rows.ratioMakesRow.laid ((World.doorLaid Tryd.prog 400 os).forCall (fun _ _ => 0) ⟨#[], args, []⟩).memory :=
  laidMetH_of_parts3 (fuel := 8) (laidMet_of_run' 8 (by kernel_rfl) (by kernel_rfl)) (by kernel_rfl) (by kernel_rfl)
theorem of_laid {W : World} (h : laidMetH Tryd.prog Rows.ratioMakesRow.laid W) : RI .u8 W.heap ⟨some ⟨g_math_bits_deBruijn32tab, 0, none⟩, tab32.length, tab32.length⟩ tab32 := by
  rw [MakeChecks.laidMetH_plain _ _ _ (by kernel_rfl), laidIs] at h
  exact tab_of_laid gVar tVar (by kernel_rfl) Tryd.underlying5 (by kernel_rfl) rfl h

set_option maxRecDepth 100000 in
theorem lifted (os : Os) (started : os.Started) (H : Type) (enc : TypeId × Value → H) :
    ReturnsInHanded {} Tryd.checked os 10 .any (fun w args => (Rows.ratioMakesSpec.pre enc Tryd.prog Tryd.f10 [] false w args ∧ laidMetH Tryd.prog Rows.ratioMakesRow.laid w) ∧ sizedMet enc Tryd.prog Tryd.f10 (OpenSpec.ofChange Rows.ratioMakesSpec) false w args)
      (Rows.ratioMakesSpec.post enc Tryd.prog Tryd.f10 false true false false) := by
  refine returnsInHanded_of_change_and (C := Tryd.checked) (X := fun w _ => laidMetH Tryd.prog Rows.ratioMakesRow.laid w) (fun _ _ _ hh h => h.of_heap hh) own started (by kernel_rfl) Tryd.func10
    (ChangeSpec.witness_shaped (enc := enc) (C := Tryd.checked) (os := os) (X := fun w _ => laidMetH Tryd.prog Rows.ratioMakesRow.laid w) false (World.doorLaid Tryd.prog 400 os) #[.int .i64 0, .bool false, .slice none 0 0, .slice none 0 0, .int .i64 0, .agg #[.bool false, .slice none 0 0, .slice none 0 0]] 8 rfl (World.shaped_of_RefB (by kernel_rfl) (by kernel_rfl)) (by kernel_rfl) (by kernel_rfl) (by kernel_rfl) (door_met os _)) ?_
  intro W base args ds gs before hval0 hW _ _ hL _
  have hval : ∀ (j : Nat) t v, Tryd.f10.params[j]? = some t → args[j]? = some v → Value.okWide Tryd.prog W .any base t v := hval0
  have hW' := hW
  obtain ⟨p, q, hA0, hV, rfl, hfz, hnd⟩ := hW
  have hA : DataW.TrodAll enc Tryd.prog W 0 (fun _ => true) true Tryd.f10.params.toList args.toList ds p := hA0
  rw [Tryd.params10] at hA hval
  obtain ⟨v0, vs0, d0, ds0, p0, q0, hargs, rfl, rfl, h0, r0⟩ := trodAll_cons hA
  obtain ⟨v1, vs1, d1, ds1, p1, q1, rfl, rfl, rfl, h1, r1⟩ := trodAll_cons r0
  obtain ⟨v2, vs2, d2, ds2, p2, q2, rfl, rfl, rfl, h2, r2⟩ := trodAll_cons r1
  obtain ⟨v3, vs3, d3, ds3, p3, q3, rfl, rfl, rfl, h3, r3⟩ := trodAll_cons r2
  obtain ⟨v4, vs4, d4, ds4, p4, q4, rfl, rfl, rfl, h4, r4⟩ := trodAll_cons r3
  obtain ⟨v5, vs5, d5, ds5, p5, q5, rfl, rfl, rfl, h5, r5⟩ := trodAll_cons r4
  obtain ⟨rfl, rfl, rfl⟩ := trodAll_nil r5
  obtain rfl : args = #[v0, v1, v2, v3, v4, v5] := by cases args; simp_all
  obtain ⟨rfl, rfl⟩ := trodVars_none hV
  obtain ⟨a0, rfl, rfl, rfl, wf0⟩ := open_int Tryd.underlying3 (hval 0 3 v0 rfl rfl) h0
  obtain ⟨b1, rfl, rfl, rfl⟩ := open_bool Tryd.underlying4 (hval 1 4 v1 rfl rfl) h1
  have k2 := h2
  have lt2 : ∀ x ∈ p2, x.block < W.heap.size := by obtain ⟨m, hm⟩ := k2; exact DataW.trod_lt m _ _ _ hm
  obtain ⟨a2, len2, cap2, rfl⟩ := okWide_slice Tryd.underlying23 (hval 2 23 v2 rfl rfl)
  obtain ⟨⟨b2, l2, k2'⟩, e2, hx2⟩ := is_n (open_shape (n := 12) (by kernel_rfl) k2)
  simp only [Value.cells, Sl.toV, List.cons.injEq, and_true, Value.slice.injEq] at e2
  obtain ⟨rfl, rfl, rfl⟩ := e2
  have k3 := h3
  have lt3 : ∀ x ∈ p3, x.block < W.heap.size := by obtain ⟨m, hm⟩ := k3; exact DataW.trod_lt m _ _ _ hm
  obtain ⟨a3, len3, cap3, rfl⟩ := okWide_slice Tryd.underlying23 (hval 3 23 v3 rfl rfl)
  obtain ⟨⟨b3, l3, k3'⟩, e3, hx3⟩ := is_n (open_shape (n := 12) (by kernel_rfl) k3)
  simp only [Value.cells, Sl.toV, List.cons.injEq, and_true, Value.slice.injEq] at e3
  obtain ⟨rfl, rfl, rfl⟩ := e3
  obtain ⟨a4, rfl, rfl, rfl, wf4⟩ := open_int Tryd.underlying2 (hval 4 2 v4 rfl rfl) h4
  have k5 := h5
  have lt5 : ∀ x ∈ p5, x.block < W.heap.size := by obtain ⟨m, hm⟩ := k5; exact DataW.trod_lt m _ _ _ hm
  obtain ⟨c5, rfl⟩ := Go.Lift.okWide_struct Tryd.underlying54 (hval 5 54 v5 rfl rfl)
  obtain ⟨x5, e5, hx5⟩ := is_q (open_shape (n := 12) (by kernel_rfl) k5)
  obtain rfl : c5 = (C_bool_sl_sl x5).toArray := by apply Array.toList_inj.1; simpa [Value.cells] using e5
  clear hA0 hval0
  refine (walk a0 b1 ⟨a2, len2, cap2⟩ ⟨a3, len3, cap3⟩ a4 x5 W (of_laid hL) wf0 hx2 hx3 wf4 hx5).mono fun e W' ⟨he, bel⟩ => ?_
  subst he
  exact ⟨_, rfl, _, _, _, [], _, [], hW', trodAll_mk1 (shut_bool Tryd.underlying4 _), (trodAll_cons_mk (shut_int Tryd.underlying3 wf0) (trodAll_cons_mk (shut_bool Tryd.underlying4 _) (trodAll_cons_mk (Below.trod laidOut (by kernel_rfl) (of_decide_eq_true (by kernel_rfl)) k2 bel lt2) (trodAll_cons_mk (Below.trod laidOut (by kernel_rfl) (of_decide_eq_true (by kernel_rfl)) k3 bel lt3) (trodAll_cons_mk (shut_int Tryd.underlying2 wf4) (trodAll_cons_mk (Below.trod laidOut (by kernel_rfl) (of_decide_eq_true (by kernel_rfl)) k5 bel lt5) trodAll_mk0)))))), rfl, bel.frame _, fun h => by cases h⟩

theorem over : Rows.ratioMakesRow.holds Tryd.pinned (OpenSpec.ofChange Rows.ratioMakesSpec) :=
  OpenClaim.holds_of_wide 10 Tryd.f10 rfl rfl rfl rfl rfl rfl rfl ⟨rfl, rfl, rfl, rfl, rfl⟩ rfl rfl rfl rfl rfl (by kernel_rfl) Tryd.func10 (by kernel_rfl)
    (of_decide_eq_true (by kernel_rfl)) (by unfold Func.isWrapper; first | (rw [if_pos (by decide +kernel)]; kernel_rfl) | (rw [if_neg (by decide +kernel)]; exact ⟨rfl, rfl⟩))
    (fun os started H enc _ => lifted os started H enc)

theorem row_holds : Rows.RatioMakesSaid := over

/-- The statement: the tied card. -/
theorem proved : Rows.RatioMakesCardSaid :=
  Claim7.holds_tied_plain_at .later [] [.data] true (true, "5e08013911d6cd5c865718492f133442620a20b0a646745fba106d5c7f502f46") false
    row_holds (fun _ h => by cases h) (by kernel_rfl) (fun _ h => by cases h) ratioMakes_row_tie rfl ⟨rfl, rfl⟩ (by kernel_rfl) rfl
    (fun f fn hf hfn => by
      obtain rfl : f = 10 := Option.some.inj ((show Tryd.prog.funcNamed "steelyard/steelyardlaw02.RatioMakes" = some 10 by kernel_rfl).symm.trans hf) |>.symm
      obtain rfl : fn = Tryd.f10 := (Option.some.inj (Tryd.func10.symm.trans hfn)).symm
      exact ⟨by kernel_rfl, fun j t ht => by
        rw [Tryd.params10] at ht
        have hm : t ∈ [3, 4, 23, 23, 2, 54] := by simpa using Array.mem_of_getElem? ht
        have hall : ([3, 4, 23, 23, 2, 54].all fun u => !Tryd.prog.wantsStandIn u) = true := by kernel_rfl
        exact (show Tryd.prog.wantsStandIn t = false by simpa using List.all_eq_true.1 hall t hm)⟩)
    (by kernel_rfl)
#print axioms proved
end Go.Proofs.YtdcdidecehbplaaDoor.rowRatioMakes

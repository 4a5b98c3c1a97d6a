/-
  For every input that Go's types allow, the law PackCut returns true and leaves each argument as it was. No condition.
-/
import Derived.Test.YtafkahjfbiamlaaDoorRows
import Derived.Test.YtafkahjfbiamlaaDoorLf
import Derived.Test.YtafkahjfbiamlaaDoorSpO
import Derived.Test.YtafkahjfbiamlaaDoorSpN
import Derived.Test.YtafkahjfbiamlaaDoorFwF
import Derived.Test.YtafkahjfbiamlaaDoorTie
import Derived.Test.YtafkahjfbiamlaaDoorCards
import Derived.SevenTiedAt
set_option linter.unusedVariables false
set_option linter.unusedSimpArgs false
namespace Go.Proofs.YtafkahjfbiamlaaDoor.rowPackCut
open Go Go.Lift Go.Sh Go.ChangeShapes Go.WideShapes Go.ChangeAt Go.RowKit
open Go.ChangeMaps (open_string shut_string)
set_option linter.unusedVariables false
set_option linter.unusedSimpArgs false

theorem own : ownKnob Tryd.prog.godebug = none := by kernel_rfl
theorem laidOut : laidOutB Tryd.prog = true := by kernel_rfl

theorem walk (x0 : Sl) (a1 : Int) (w : World) (ht : RI .u8 w.heap ⟨some ⟨g_math_bits_deBruijn32tab, 0, none⟩, tab32.length, tab32.length⟩ tab32) (hx0 : RawT2 w.heap x0) (wf1 : (Lit.int .i64 a1).wf = true) :
    Calls Tryd.prog 4 #[Sl.toV x0, .int .i64 a1] w fun e w' => e = .returned (.bool true) ∧ Below w.heap.size w w' := by
  refine (lift_law04uPackCut x0 a1 w w.heap (Rel.self _) (fun r h => r = true ∧ Ext w.heap h) ?_).mono fun e w' h => post_below h
  obtain ⟨ts, h3⟩ := hx0; exact PackCut_holds ht h3 fun h' e => ⟨rfl, e⟩

theorem gVar : Tryd.prog.globalNamed "math/bits.deBruijn32tab" = some g_math_bits_deBruijn32tab := by kernel_rfl
theorem tVar : (Tryd.prog.globals[g_math_bits_deBruijn32tab]?).map (·.type) = some 151 := by kernel_rfl
theorem laidIs : Rows.packCutRow.laid = [("math/bits.deBruijn32tab", .agg (tab32.map fun k : Nat => .lit (.int .u8 (k : Int))))] := rfl
theorem door_met (os : Os) (args : Array Value) : laidMetH Tryd.prog Rows.packCutRow.laid ((World.doorLaid Tryd.prog 400 os).forCall (fun _ _ => 0) ⟨#[], args, []⟩).memory :=
  laidMetH_of_parts3 (fuel := 8) (laidMet_of_run' 8 (by kernel_rfl) (by kernel_rfl)) (by kernel_rfl) (by kernel_rfl)
theorem of_laid {W : World} (h : laidMetH Tryd.prog Rows.packCutRow.laid W) : RI .u8 W.heap ⟨some ⟨g_math_bits_deBruijn32tab, 0, none⟩, tab32.length, tab32.length⟩ tab32 := by
  rw [MakeChecks.laidMetH_plain _ _ _ (by kernel_rfl), laidIs] at h
  exact tab_of_laid gVar tVar (by kernel_rfl) Tryd.underlying5 (by kernel_rfl) rfl h

set_option maxRecDepth 100000 in
theorem lifted (os : Os) (started : os.Started) (H : Type) (enc : TypeId × Value → H) :
    ReturnsInHanded {} Tryd.checked os 4 .any (fun w args => (Rows.packCutSpec.pre enc Tryd.prog Tryd.f4 [] false w args ∧ laidMetH Tryd.prog Rows.packCutRow.laid w) ∧ sizedMet enc Tryd.prog Tryd.f4 (OpenSpec.ofChange Rows.packCutSpec) false w args)
      (Rows.packCutSpec.post enc Tryd.prog Tryd.f4 false true false false) := by
  refine returnsInHanded_of_change_and (C := Tryd.checked) (X := fun w _ => laidMetH Tryd.prog Rows.packCutRow.laid w) (fun _ _ _ hh h => h.of_heap hh) own started (by kernel_rfl) Tryd.func4
    (ChangeSpec.witness_shaped (enc := enc) (C := Tryd.checked) (os := os) (X := fun w _ => laidMetH Tryd.prog Rows.packCutRow.laid w) false (World.doorLaid Tryd.prog 400 os) #[.slice none 0 0, .int .i64 0] 8 rfl (World.shaped_of_RefB (by kernel_rfl) (by kernel_rfl)) (by kernel_rfl) (by kernel_rfl) (by kernel_rfl) (door_met os _)) ?_
  intro W base args ds gs before hval0 hW _ _ hL _
  have hval : ∀ (j : Nat) t v, Tryd.f4.params[j]? = some t → args[j]? = some v → Value.okWide Tryd.prog W .any base t v := hval0
  have hW' := hW
  obtain ⟨p, q, hA0, hV, rfl, hfz, hnd⟩ := hW
  have hA : DataW.TrodAll enc Tryd.prog W 0 (fun _ => true) true Tryd.f4.params.toList args.toList ds p := hA0
  rw [Tryd.params4] at hA hval
  obtain ⟨v0, vs0, d0, ds0, p0, q0, hargs, rfl, rfl, h0, r0⟩ := trodAll_cons hA
  obtain ⟨v1, vs1, d1, ds1, p1, q1, rfl, rfl, rfl, h1, r1⟩ := trodAll_cons r0
  obtain ⟨rfl, rfl, rfl⟩ := trodAll_nil r1
  obtain rfl : args = #[v0, v1] := by cases args; simp_all
  obtain ⟨rfl, rfl⟩ := trodVars_none hV
  have k0 := h0
  have lt0 : ∀ x ∈ p0, x.block < W.heap.size := by obtain ⟨m, hm⟩ := k0; exact DataW.trod_lt m _ _ _ hm
  obtain ⟨a0, len0, cap0, rfl⟩ := okWide_slice Tryd.underlying23 (hval 0 23 v0 rfl rfl)
  obtain ⟨⟨b0, l0, k0'⟩, e0, hx0⟩ := is_things2 (open_shape (n := 12) (by kernel_rfl) k0)
  simp only [Value.cells, Sl.toV, List.cons.injEq, and_true, Value.slice.injEq] at e0
  obtain ⟨rfl, rfl, rfl⟩ := e0
  obtain ⟨a1, rfl, rfl, rfl, wf1⟩ := open_int Tryd.underlying3 (hval 1 3 v1 rfl rfl) h1
  clear hA0 hval0
  refine (walk ⟨a0, len0, cap0⟩ a1 W (of_laid hL) hx0 wf1).mono fun e W' ⟨he, bel⟩ => ?_
  subst he
  exact ⟨_, rfl, _, _, _, [], _, [], hW', trodAll_mk1 (shut_bool Tryd.underlying4 _), (trodAll_cons_mk (Below.trod laidOut (by kernel_rfl) (of_decide_eq_true (by kernel_rfl)) k0 bel lt0) (trodAll_cons_mk (shut_int Tryd.underlying3 wf1) trodAll_mk0)), rfl, bel.frame _, fun h => by cases h⟩

theorem over : Rows.packCutRow.holds Tryd.pinned (OpenSpec.ofChange Rows.packCutSpec) :=
  OpenClaim.holds_of_wide 4 Tryd.f4 rfl rfl rfl rfl rfl rfl rfl ⟨rfl, rfl, rfl, rfl, rfl⟩ rfl rfl rfl rfl rfl (by kernel_rfl) Tryd.func4 (by kernel_rfl)
    (of_decide_eq_true (by kernel_rfl)) (by unfold Func.isWrapper; first | (rw [if_pos (by decide +kernel)]; kernel_rfl) | (rw [if_neg (by decide +kernel)]; exact ⟨rfl, rfl⟩))
    (fun os started H enc _ => lifted os started H enc)

theorem row_holds : Rows.PackCutSaid := over

/-- The statement: the tied card. -/
theorem proved : Rows.PackCutCardSaid :=
  Claim7.holds_tied_plain_at .later [] [.data] true (true, "fd263222c6c9eda23e63988b2be21bb65d1fd803cf2256ea2cdc596c5dd5921b") false
    row_holds (fun _ h => by cases h) (by kernel_rfl) (fun _ h => by cases h) packCut_row_tie rfl ⟨rfl, rfl⟩ (by kernel_rfl) rfl
    (fun f fn hf hfn => by
      obtain rfl : f = 4 := Option.some.inj ((show Tryd.prog.funcNamed "steelyard/steelyardlaw04.PackCut" = some 4 by kernel_rfl).symm.trans hf) |>.symm
      obtain rfl : fn = Tryd.f4 := (Option.some.inj (Tryd.func4.symm.trans hfn)).symm
      exact ⟨by kernel_rfl, fun j t ht => by
        rw [Tryd.params4] at ht
        have hm : t ∈ [23, 3] := by simpa using Array.mem_of_getElem? ht
        have hall : ([23, 3].all fun u => !Tryd.prog.wantsStandIn u) = true := by kernel_rfl
        exact (show Tryd.prog.wantsStandIn t = false by simpa using List.all_eq_true.1 hall t hm)⟩)
    (by kernel_rfl)
#print axioms proved
end Go.Proofs.YtafkahjfbiamlaaDoor.rowPackCut

/-
  For every input that Go's types allow, the law StateRaw returns true and leaves each argument as it was. No condition.
-/
import Derived.Test.YtmcfhickfcmkkaaGreatDoorRows
import Derived.Test.YtmcfhickfcmkkaaGreatDoorEnt
import Derived.Test.YtmcfhickfcmkkaaGreatDoorTS
import Derived.Test.YtmcfhickfcmkkaaGreatDoorTO
import Derived.Test.YtmcfhickfcmkkaaGreatDoorFwE
import Derived.Test.YtmcfhickfcmkkaaGreatDoorTie
import Derived.Test.YtmcfhickfcmkkaaGreatDoorCards
import Derived.SevenTiedAt
set_option linter.unusedVariables false
set_option linter.unusedSimpArgs false
namespace Go.Proofs.YtmcfhickfcmkkaaGreatDoor.rowStateRaw
open Go Go.Lift Go.Sh Go.ChangeShapes Go.WideShapes Go.ChangeAt Go.RowKit
open Go.ChangeMaps (open_string shut_string)
set_option linter.unusedVariables false
set_option linter.unusedSimpArgs false

theorem own : ownKnob Tryz.prog.godebug = none := by kernel_rfl
theorem laidOut : laidOutB Tryz.prog = true := by kernel_rfl

theorem walk (x0 : Sl) (w : World) (ht : RI .u8 w.heap ⟨some ⟨aD, 0, none⟩, ajB.length, ajB.length⟩ ajB) (hx0 : ami w.heap x0) :
    Calls Tryz.prog 3 #[Sl.toV x0] w fun e w' => e = .returned (.bool true) ∧ Below w.heap.size w w' := by
  refine (rK x0 w w.heap (Rel.self _) (fun r h => r = true ∧ Ext w.heap h) ?_).mono fun e w' h => agv h
  obtain ⟨bs, h1, h2⟩ := hx0; exact Go.Sh.Pk.ai8 (fun ht K => Go.Sh.Pk.ajc ht K) ht h1 h2 fun h' e => ⟨rfl, e⟩

theorem gVar : Tryz.prog.globalNamed "math/bits.deBruijn32tab" = some aD := by kernel_rfl
theorem tVar : (Tryz.prog.globals[aD]?).map (·.type) = some 276 := by kernel_rfl
theorem laidIs : Rows.stateRawRow.laid = [("math/bits.deBruijn32tab", .agg (ajB.map fun k : Nat => .lit (.int .u8 (k : Int))))] := rfl
theorem door_met (os : Os) (args : Array Value) : laidMetH Tryz.prog Rows.stateRawRow.laid ((World.doorLaid Tryz.prog 400 os).forCall (fun _ _ => 0) ⟨#[], args, []⟩).memory :=
  laidMetH_of_parts3 (fuel := 8) (laidMet_of_run' 8 (by kernel_rfl) (by kernel_rfl)) (by kernel_rfl) (by kernel_rfl)
theorem of_laid {W : World} (h : laidMetH Tryz.prog Rows.stateRawRow.laid W) : RI .u8 W.heap ⟨some ⟨aD, 0, none⟩, ajB.length, ajB.length⟩ ajB := by
  rw [MakeChecks.laidMetH_plain _ _ _ (by kernel_rfl), laidIs] at h
  exact afA gVar tVar (by kernel_rfl) Tryz.underlying5 (by kernel_rfl) rfl h

set_option maxRecDepth 100000 in
theorem lifted (os : Os) (started : os.Started) (H : Type) (enc : TypeId × Value → H) :
    ReturnsInHanded {} Tryz.checked os 3 .any (fun w args => (Rows.stateRawSpec.pre enc Tryz.prog Tryz.f3 [] false w args ∧ laidMetH Tryz.prog Rows.stateRawRow.laid w) ∧ sizedMet enc Tryz.prog Tryz.f3 (OpenSpec.ofChange Rows.stateRawSpec) false w args)
      (Rows.stateRawSpec.post enc Tryz.prog Tryz.f3 false true false false) := by
  refine returnsInHanded_of_change_and (C := Tryz.checked) (X := fun w _ => laidMetH Tryz.prog Rows.stateRawRow.laid w) (fun _ _ _ hh h => h.of_heap hh) own started (by kernel_rfl) Tryz.func3
    (ChangeSpec.witness_shaped (enc := enc) (C := Tryz.checked) (os := os) (X := fun w _ => laidMetH Tryz.prog Rows.stateRawRow.laid w) false (World.doorLaid Tryz.prog 400 os) #[.slice none 0 0] 8 rfl (World.shaped_of_RefB (by kernel_rfl) (by kernel_rfl)) (by kernel_rfl) (by kernel_rfl) (by kernel_rfl) (door_met os _)) ?_
  intro W base args ds gs before hval0 hW _ _ hL _
  have hval : ∀ (j : Nat) t v, Tryz.f3.params[j]? = some t → args[j]? = some v → Value.okWide Tryz.prog W .any base t v := hval0
  have hW' := hW
  obtain ⟨p, q, hA0, hV, rfl, hfz, hnd⟩ := hW
  have hA : DataW.TrodAll enc Tryz.prog W 0 (fun _ => true) true Tryz.f3.params.toList args.toList ds p := hA0
  rw [Tryz.params3] at hA hval
  obtain ⟨v0, vs0, d0, ds0, p0, q0, hargs, rfl, rfl, h0, r0⟩ := trodAll_cons hA
  obtain ⟨rfl, rfl, rfl⟩ := trodAll_nil r0
  obtain rfl : args = #[v0] := by cases args; simp_all
  obtain ⟨rfl, rfl⟩ := trodVars_none hV
  have k0 := h0
  have lt0 : ∀ x ∈ p0, x.block < W.heap.size := by obtain ⟨m, hm⟩ := k0; exact DataW.trod_lt m _ _ _ hm
  obtain ⟨a0, len0, cap0, rfl⟩ := okWide_slice Tryz.underlying22 (hval 0 22 v0 rfl rfl)
  obtain ⟨⟨b0, l0, k0'⟩, e0, hx0⟩ := ajM (ahb (n := 12) (by kernel_rfl) k0)
  simp only [Value.cells, Sl.toV, List.cons.injEq, and_true, Value.slice.injEq] at e0
  obtain ⟨rfl, rfl, rfl⟩ := e0
  clear hA0 hval0
  refine (walk ⟨a0, len0, cap0⟩ W (of_laid hL) hx0).mono fun e W' ⟨he, bel⟩ => ?_
  subst he
  exact ⟨_, rfl, _, _, _, [], _, [], hW', trodAll_mk1 (shut_bool Tryz.underlying4 _), (trodAll_cons_mk (Below.trod laidOut (by kernel_rfl) (of_decide_eq_true (by kernel_rfl)) k0 bel lt0) trodAll_mk0), rfl, bel.frame _, fun h => by cases h⟩

theorem over : Rows.stateRawRow.holds Tryz.pinned (OpenSpec.ofChange Rows.stateRawSpec) :=
  OpenClaim.holds_of_wide 3 Tryz.f3 rfl rfl rfl rfl rfl rfl rfl ⟨rfl, rfl, rfl, rfl, rfl⟩ rfl rfl rfl rfl rfl (by kernel_rfl) Tryz.func3 (by kernel_rfl)
    (of_decide_eq_true (by kernel_rfl)) (by unfold Func.isWrapper; first | (rw [if_pos (by decide +kernel)]; kernel_rfl) | (rw [if_neg (by decide +kernel)]; exact ⟨rfl, rfl⟩))
    (fun os started H enc _ => lifted os started H enc)

theorem row_holds : Rows.StateRawSaid := over

/-- The statement: the tied card. -/
theorem proved : Rows.StateRawCardSaid :=
  Claim7.holds_tied_plain_at .later [] [.data] true (true, "9bcb2f98b2e424862de37a473914ae5b990222f2a7e1816ddff88d4e066e8518") false
    row_holds (fun _ h => by cases h) (by kernel_rfl) (fun _ h => by cases h) stateRaw_row_tie rfl ⟨rfl, rfl⟩ (by kernel_rfl) rfl
    (fun f fn hf hfn => by
      obtain rfl : f = 3 := Option.some.inj ((show Tryz.prog.funcNamed "steelyard/steelyardlaw21.StateRaw" = some 3 by kernel_rfl).symm.trans hf) |>.symm
      obtain rfl : fn = Tryz.f3 := (Option.some.inj (Tryz.func3.symm.trans hfn)).symm
      exact ⟨by kernel_rfl, fun j t ht => by
        rw [Tryz.params3] at ht
        have hm : t ∈ [22] := by simpa using Array.mem_of_getElem? ht
        have hall : ([22].all fun u => !Tryz.prog.wantsStandIn u) = true := by kernel_rfl
        exact (show Tryz.prog.wantsStandIn t = false by simpa using List.all_eq_true.1 hall t hm)⟩)
    (by kernel_rfl)
#print axioms proved
end Go.Proofs.YtmcfhickfcmkkaaGreatDoor.rowStateRaw

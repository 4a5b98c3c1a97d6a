/-
  Where the arguments and the listed variable are together of bulk at most 1048576, the law LinearTold returns true and leaves each argument as it was.
-/
import Derived.Test.YtjppcjbmepcneaaDoorRows
import Derived.Test.YtjppcjbmepcneaaDoorLfT
import Derived.Test.YtjppcjbmepcneaaDoorSpW
import Derived.Test.YtjppcjbmepcneaaDoorOpP
import Derived.Test.YtjppcjbmepcneaaDoorFwF
import Derived.Test.YtjppcjbmepcneaaDoorTie
import Derived.Test.YtjppcjbmepcneaaDoorCards
import Derived.SevenTiedAt
import Derived.Deep.DeepHandedRow
import Derived.Deep.DeepWitnessRowRef
set_option linter.unusedVariables false
set_option linter.unusedSimpArgs false
namespace Go.Proofs.YtjppcjbmepcneaaDoor.rowLinearTold
open Go Go.Lift Go.Sh Go.ChangeShapes Go.WideShapes Go.ChangeAt Go.RowKit
open Go.ChangeMaps (open_string shut_string)
set_option linter.unusedVariables false
set_option linter.unusedSimpArgs false

theorem own : ownKnob Tryd.prog.godebug = none := by kernel_rfl
theorem laidOut : laidOutB Tryd.prog = true := by kernel_rfl

theorem walk (x0 : X4) (x1 : X4) (x2 : X3) (x3 : Sl) (a4 : Int) (w : World) (ht : RI .u8 w.heap ⟨some ⟨g_math_bits_deBruijn32tab, 0, none⟩, tab32.length, tab32.length⟩ tab32) (hx0 : Raw4u w.heap x0) (hx1 : Raw4u w.heap x1) (hx2 : RawB w.heap x2) (hx3 : RawL w.heap x3) (wf4 : (Lit.int .i64 a4).wf = true) :
    Calls Tryd.prog 3 #[.agg (C_bool_sl_sl_sl x0).toArray, .agg (C_bool_sl_sl_sl x1).toArray, .agg (C_bool_sl_sl x2).toArray, Sl.toV x3, .int .i64 a4] w fun e w' => e = .returned (.bool true) ∧ Below w.heap.size w w' := by
  refine (lift_law12uLinearTold x0 x1 x2 x3 a4 w w.heap (Rel.self _) (fun r h => r = true ∧ Ext w.heap h) ?_).mono fun e w' h => post_below h
  exact LinearTold_holds ht hx0.1 hx0.2 hx1.1 hx2 hx3 fun h' e => ⟨rfl, e⟩

theorem gVar : Tryd.prog.globalNamed "math/bits.deBruijn32tab" = some g_math_bits_deBruijn32tab := by kernel_rfl
theorem tVar : (Tryd.prog.globals[g_math_bits_deBruijn32tab]?).map (·.type) = some 118 := by kernel_rfl
theorem laidIs : Rows.linearToldUptoRow.laid = [("math/bits.deBruijn32tab", .agg (tab32.map fun k : Nat => .lit (.int .u8 (k : Int))))] := rfl
theorem door_met (os : Os) (args : Array Value) : laidMetH Tryd.prog Rows.linearToldUptoRow.laid ((World.doorLaid Tryd.prog 400 os).forCall (fun _ _ => 0) ⟨#[], args, []⟩).memory :=
  laidMetH_of_parts3 (fuel := 8) (laidMet_of_run' 8 (by kernel_rfl) (by kernel_rfl)) (by kernel_rfl) (by kernel_rfl)
theorem of_laid {W : World} (h : laidMetH Tryd.prog Rows.linearToldUptoRow.laid W) : RI .u8 W.heap ⟨some ⟨g_math_bits_deBruijn32tab, 0, none⟩, tab32.length, tab32.length⟩ tab32 := by
  rw [MakeChecks.laidMetH_plain _ _ _ (by kernel_rfl), laidIs] at h
  exact tab_of_laid gVar tVar (by kernel_rfl) Tryd.underlying5 (by kernel_rfl) rfl h

set_option maxRecDepth 100000 in
theorem isBulk {H : Type} : IsBulk (H := H) Rows.uptoBulk Rows.uptoBulkAll :=
  ⟨fun b => by simp [Rows.uptoBulk], fun d => by simp [Rows.uptoBulk], fun l r => by simp [Rows.uptoBulk], fun l => by simp [Rows.uptoBulk], by simp [Rows.uptoBulkAll], fun d l => by simp [Rows.uptoBulkAll], fun d => by
    cases d with
    | lit l => cases l <;> simp [Rows.uptoBulk]
    | nil => simp [Rows.uptoBulk]
    | ptr d => simp [Rows.uptoBulk]
    | slice elems spare => simp [Rows.uptoBulk]
    | agg parts => simp [Rows.uptoBulk]
    | iface t d => simp [Rows.uptoBulk]
    | map entries => simp [Rows.uptoBulk]
    | held h => simp [Rows.uptoBulk]⟩
theorem reads (os : Os) {H : Type} (enc : TypeId × Value → H) : ∃ places, DataW.whole enc Tryd.prog ((World.doorLaid Tryd.prog 400 os).forCall (fun _ _ => 0) ⟨#[], #[.agg #[.bool false, .slice none 0 0, .slice none 0 0, .slice none 0 0], .agg #[.bool false, .slice none 0 0, .slice none 0 0, .slice none 0 0], .agg #[.bool false, .slice none 0 0, .slice none 0 0], .slice none 0 0, .int .i64 0], []⟩).memory Tryd.f3.params.toList Rows.linearToldSpec.vars false (#[.agg #[.bool false, .slice none 0 0, .slice none 0 0, .slice none 0 0], .agg #[.bool false, .slice none 0 0, .slice none 0 0, .slice none 0 0], .agg #[.bool false, .slice none 0 0, .slice none 0 0], .slice none 0 0, .int .i64 0] : Array Value).toList 8 = some ([.agg [.agg [.agg [.lit (.bool false), .nil], .nil], .nil], .agg [.agg [.agg [.lit (.bool false), .nil], .nil], .nil], .agg [.agg [.lit (.bool false), .nil], .nil], .nil, .lit (.int .i64 0)], [], places) :=
  ⟨[], by kernel_rfl⟩

set_option maxRecDepth 100000 in
theorem lifted (os : Os) (started : os.Started) (H : Type) (enc : TypeId × Value → H) (F : Stop.Interp) :
    ReturnsInHanded {} Tryd.checked os 3 .any ((Rows.OpenSpec.upto Rows.linearToldSpec).preRow enc Tryd.prog Tryd.f3 Rows.linearToldUptoRow.domain false Rows.linearToldUptoRow.laid) (((Rows.OpenSpec.upto Rows.linearToldSpec).at F).post enc Tryd.prog Tryd.f3 false true false false) := by
  obtain ⟨places, hx⟩ := reads os enc
  refine returnsInHanded_of_row (C := Tryd.checked) (s := Rows.OpenSpec.upto Rows.linearToldSpec) own started (by kernel_rfl) Tryd.func3
    (witness_row_atRef (enc := enc) (C := Tryd.checked) false (World.doorLaid Tryd.prog 400 os) #[.agg #[.bool false, .slice none 0 0, .slice none 0 0, .slice none 0 0], .agg #[.bool false, .slice none 0 0, .slice none 0 0, .slice none 0 0], .agg #[.bool false, .slice none 0 0, .slice none 0 0], .slice none 0 0, .int .i64 0] rfl (by kernel_rfl) (by kernel_rfl) (by kernel_rfl)
      (OpenSpec.preRow_of_cond 8 hx (by kernel_rfl) (fun k hk => by cases hk; kernel_rfl) (by kernel_rfl) (door_met os _))) ?_
  intro W base args ds gs before hval0 hW _ hcond _ hL _ _
  have hval : ∀ (j : Nat) t v, Tryd.f3.params[j]? = some t → args[j]? = some v → Value.okWide Tryd.prog W .any base t v := hval0
  have hW' := hW
  obtain ⟨p, q, hA0, hV, rfl, hfz, hnd⟩ := hW
  have hA : DataW.TrodAll enc Tryd.prog W 0 (fun _ => true) true Tryd.f3.params.toList args.toList ds p := hA0
  rw [Tryd.params3] at hA hval
  obtain ⟨v0, vs0, d0, ds0, p0, q0, hargs, rfl, rfl, h0, r0⟩ := trodAll_cons hA
  obtain ⟨v1, vs1, d1, ds1, p1, q1, rfl, rfl, rfl, h1, r1⟩ := trodAll_cons r0
  obtain ⟨v2, vs2, d2, ds2, p2, q2, rfl, rfl, rfl, h2, r2⟩ := trodAll_cons r1
  obtain ⟨v3, vs3, d3, ds3, p3, q3, rfl, rfl, rfl, h3, r3⟩ := trodAll_cons r2
  obtain ⟨v4, vs4, d4, ds4, p4, q4, rfl, rfl, rfl, h4, r4⟩ := trodAll_cons r3
  obtain ⟨rfl, rfl, rfl⟩ := trodAll_nil r4
  obtain rfl : args = #[v0, v1, v2, v3, v4] := by cases args; simp_all
  obtain ⟨rfl, rfl⟩ := trodVars_none hV
  have hbk := of_decide_eq_true (hcond _ rfl)
  rw [List.append_nil] at hbk
  have hb0 : Rows.uptoBulk d0 ≤ 1048576 := Nat.le_trans (isBulk.mem (by simp)) hbk
  have hb1 : Rows.uptoBulk d1 ≤ 1048576 := Nat.le_trans (isBulk.mem (by simp)) hbk
  have hb2 : Rows.uptoBulk d2 ≤ 1048576 := Nat.le_trans (isBulk.mem (by simp)) hbk
  have hb3 : Rows.uptoBulk d3 ≤ 1048576 := Nat.le_trans (isBulk.mem (by simp)) hbk
  have hb4 : Rows.uptoBulk d4 ≤ 1048576 := Nat.le_trans (isBulk.mem (by simp)) hbk
  clear hbk
  have k0 := h0
  have lt0 : ∀ x ∈ p0, x.block < W.heap.size := by obtain ⟨m, hm⟩ := k0; exact DataW.trod_lt m _ _ _ hm
  obtain ⟨c0, rfl⟩ := Go.Lift.okWide_struct Tryd.underlying30 (hval 0 30 v0 rfl rfl)
  obtain ⟨x0, e0, hx0⟩ := is_pB (open_shapeB isBulk (n := 12) (by kernel_rfl) k0 hb0)
  obtain rfl : c0 = (C_bool_sl_sl_sl x0).toArray := by apply Array.toList_inj.1; simpa [Value.cells] using e0
  have k1 := h1
  have lt1 : ∀ x ∈ p1, x.block < W.heap.size := by obtain ⟨m, hm⟩ := k1; exact DataW.trod_lt m _ _ _ hm
  obtain ⟨c1, rfl⟩ := Go.Lift.okWide_struct Tryd.underlying30 (hval 1 30 v1 rfl rfl)
  obtain ⟨x1, e1, hx1⟩ := is_pB (open_shapeB isBulk (n := 12) (by kernel_rfl) k1 hb1)
  obtain rfl : c1 = (C_bool_sl_sl_sl x1).toArray := by apply Array.toList_inj.1; simpa [Value.cells] using e1
  have k2 := h2
  have lt2 : ∀ x ∈ p2, x.block < W.heap.size := by obtain ⟨m, hm⟩ := k2; exact DataW.trod_lt m _ _ _ hm
  obtain ⟨c2, rfl⟩ := Go.Lift.okWide_struct Tryd.underlying27 (hval 2 27 v2 rfl rfl)
  obtain ⟨x2, e2, hx2⟩ := is_qB (open_shapeB isBulk (n := 12) (by kernel_rfl) k2 hb2)
  obtain rfl : c2 = (C_bool_sl_sl x2).toArray := by apply Array.toList_inj.1; simpa [Value.cells] using e2
  have k3 := h3
  have lt3 : ∀ x ∈ p3, x.block < W.heap.size := by obtain ⟨m, hm⟩ := k3; exact DataW.trod_lt m _ _ _ hm
  obtain ⟨a3, len3, cap3, rfl⟩ := okWide_slice Tryd.underlying31 (hval 3 31 v3 rfl rfl)
  obtain ⟨⟨b3, l3, k3'⟩, e3, hx3⟩ := is_lB (open_shapeB isBulk (n := 12) (by kernel_rfl) k3 hb3)
  simp only [Value.cells, Sl.toV, List.cons.injEq, and_true, Value.slice.injEq] at e3
  obtain ⟨rfl, rfl, rfl⟩ := e3
  obtain ⟨a4, rfl, rfl, rfl, wf4⟩ := open_int Tryd.underlying3 (hval 4 3 v4 rfl rfl) h4
  clear hA0 hval0
  refine (walk x0 x1 x2 ⟨a3, len3, cap3⟩ a4 W (of_laid hL) hx0 hx1 hx2 hx3 wf4).mono fun e W' ⟨he, bel⟩ => ?_
  subst he
  exact ⟨_, rfl, _, _, _, [], _, [], hW', trodAll_mk1 (shut_bool Tryd.underlying4 _), (trodAll_cons_mk (Below.trod laidOut (by kernel_rfl) (of_decide_eq_true (by kernel_rfl)) k0 bel lt0) (trodAll_cons_mk (Below.trod laidOut (by kernel_rfl) (of_decide_eq_true (by kernel_rfl)) k1 bel lt1) (trodAll_cons_mk (Below.trod laidOut (by kernel_rfl) (of_decide_eq_true (by kernel_rfl)) k2 bel lt2) (trodAll_cons_mk (Below.trod laidOut (by kernel_rfl) (of_decide_eq_true (by kernel_rfl)) k3 bel lt3) (trodAll_cons_mk (shut_int Tryd.underlying3 wf4) trodAll_mk0))))), rfl, bel.frame _, fun h => by cases h⟩

theorem over : Rows.linearToldUptoRow.holds Tryd.pinned (Rows.OpenSpec.upto Rows.linearToldSpec) :=
  OpenClaim.holds_of_cond 3 Tryd.f3 rfl rfl rfl rfl rfl rfl rfl ⟨rfl, rfl, rfl, rfl, rfl⟩ rfl rfl rfl rfl rfl (by kernel_rfl) Tryd.func3 (by kernel_rfl)
    (of_decide_eq_true (by kernel_rfl)) (by unfold Func.isWrapper; first | (rw [if_pos (by decide +kernel)]; kernel_rfl) | (rw [if_neg (by decide +kernel)]; exact ⟨rfl, rfl⟩))
    (fun os started H enc _ F => by rw [OpenClaim.pre_eq_preRow]; exact lifted os started H enc F)

theorem row_holds : Rows.LinearToldUptoSaid := over

/-- The statement: the tied card. -/
theorem proved : Rows.LinearToldUptoCardSaid :=
  Claim7.holds_tied_plain_at .later [] _ _ _ _
    row_holds (fun _ h => by cases h) (by kernel_rfl) (fun _ h => by cases h) linearToldUpto_row_tie rfl ⟨rfl, rfl⟩ (by kernel_rfl) rfl
    (fun f fn hf hfn => by
      obtain rfl : f = 3 := Option.some.inj ((show Tryd.prog.funcNamed "steelyard/steelyardlaw12.LinearTold" = some 3 by kernel_rfl).symm.trans hf) |>.symm
      obtain rfl : fn = Tryd.f3 := (Option.some.inj (Tryd.func3.symm.trans hfn)).symm
      exact ⟨by kernel_rfl, fun j t ht => by
        rw [Tryd.params3] at ht
        have hm : t ∈ [30, 30, 27, 31, 3] := by simpa using Array.mem_of_getElem? ht
        have hall : ([30, 30, 27, 31, 3].all fun u => !Tryd.prog.wantsStandIn u) = true := by kernel_rfl
        exact (show Tryd.prog.wantsStandIn t = false by simpa using List.all_eq_true.1 hall t hm)⟩)
    (by kernel_rfl)
#print axioms proved
end Go.Proofs.YtjppcjbmepcneaaDoor.rowLinearTold

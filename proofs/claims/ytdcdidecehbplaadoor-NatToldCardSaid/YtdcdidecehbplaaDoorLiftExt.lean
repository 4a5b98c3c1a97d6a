/- Laws that the proof of this claim's statement leans on, each proved under the conditions that it states. -/
import Derived.Test.YtdcdidecehbplaaDoorLiftDraw
set_option linter.unusedVariables false
set_option linter.unusedSimpArgs false
namespace Go.Lift
open Go
section
variable {P : Program} {T : TTab} {n : Nat} {L : Frm} {h : Heap} {o : Oper}
/-- A place in an array that a pointer leads to. -/
theorem Quiet1.idxA {t e sz len : Nat} {x i : Operand} {a : Addr} {k : IntKind} {j : Int} (hT : TTab.Ok P T) (hop : o.op = .indexAddr t x i) (ht : T.desc t = some (.array len e)) (hs : T.size e = some sz)
    (hx : L.ev x = some (.pointer (some a))) (hi : L.ev i = some (.int k j)) (h2 : 0 ≤ j ∧ j < len) : Quiet1 P n L h o (.pointer (some (a.add (j.toNat * sz)))) := by
  intro ac w ha hw
  simp [execOp, hop, ha.eval hx, ha.eval hi, Instr.indexAt, asIntOf, Result.andThen, TTab.desc_run hT ht, h2, TTab.size_run hT hs, Instr.sureAddr]

/-- A call of a function by its value. -/
theorem Eff.callV {α : Type} {f : FuncId} {x : Operand} {args : Array Operand} {tys : Array TypeId} {vs : List Value} {toV : α → Value} {S : α → Heap → Prop}
    (hop : o.op = .call ⟨.value x, args, tys⟩) (hx : L.ev x = some (.func (.func f) #[] #[])) (hcall : ∀ vs w, (callFunc f vs).run P w = .ok (.enter f vs) w)
    (hvs : evArgs L args.toList = some vs) (sh : Heap → Prop) (H0 : sh h) (hl : ∀ w, sh w.heap → Calls P f vs.toArray w (Post w toV S)) :
    Eff P n L h o (fun v h' => ∃ r, v = toV r ∧ S r h') := by
  intro ac w ha hw next Q hn
  have e1 := evArgs_spec ha _ _ hvs
  have e2 : args.map ac.eval = vs.toArray := by rw [← e1, ← Array.toList_map]
  have : (execOp ac.eval o).run P w = .ok (.enter f vs.toArray) w := by
    simp [execOp, hop, resolve, Deferred.ofValue, ha.eval hx, invoke, e2, hcall]
  unfold Oper.wp
  rw [this]
  refine (hl w (by rw [hw]; exact H0)).mono ?_
  rintro e w' ⟨r, rfl, hs, hS⟩
  exact hn _ _ hs ⟨r, rfl, hS⟩
end
end Go.Lift

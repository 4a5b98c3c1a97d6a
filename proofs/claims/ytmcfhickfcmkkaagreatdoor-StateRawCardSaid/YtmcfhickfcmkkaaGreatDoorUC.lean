/-
  Laws that the proof of this claim's statement leans on, each proved under the conditions that it states.
-/
import Derived.Test.YtmcfhickfcmkkaaGreatDoorUB
set_option linter.unusedVariables false
set_option linter.unusedSimpArgs false
namespace Go.Sh
open Go Go.Lift
variable {h0 h : Heap} {x : S5} {t : TT} {L B : Nat}
def psA (t : TT) (i : Nat) : Rat × PL := t.ps.getD i (0, [])
theorem alp {i : Nat} (hi : i < t.ps.length) : psA t i = t.ps[i] := by unfold psA; rw [List.getD_eq_getElem?_getD, List.getElem?_eq_getElem hi]; rfl
structure RowOk (t : TT) (i : Nat) : Prop where
  lo : 0 ≤ at0 t.bs i
  hi : at0 t.bs i < (t.vs.length : Int)
  me : rowI t.bs (at0 t.bs i) = (i : Int)
  c : (psA t i).1 = 0
  m : ∀ m ∈ (psA t i).2, m.1 < (t.vs.length : Int) ∧ rowI t.bs m.1 < 0
  v : valV (atD t.vs) (psA t i).2 = atD t.vs (at0 t.bs i)
structure RightT (t : TT) : Prop where
  lb : t.bs.length = t.ps.length
  ll : t.lo.length = t.vs.length
  lu : t.up.length = t.vs.length
  lo : ∀ e ∈ t.lo, e.1 = 0 → e.2 = (0, 0)
  up : ∀ e ∈ t.up, e.1 = 0 → e.2 = (0, 0)
  rows : ∀ i, i < t.ps.length → RowOk t i
end Go.Sh

namespace Go.Sh
open Go Go.Lift
variable {h0 h : Heap} {x : S5} {t : TT} {L B : Nat}
abbrev CT := cD
theorem yn {p : Addr} {hh : Heap} (hp : cells? hh p 5 0 = some (CT x)) (k : Nat) (hk : k < 5) : cell? hh (p.add k) = some ((CT x)[k]'hk) := by
  have := cells?_get _ _ _ hp k hk
  simpa using this
theorem agU {hh : Heap} {nm : Addr} {y : X6} {p : Rat × Rat} {Q : Bool → Heap → Prop} (ht : Tab hh) (hc : cell? hh nm = some (FnV.toV (FnV.mk 84 [] []))) (q : DQ hh y p) (hs : szD p ≤ 1000) (K : ∀ h', Ext hh h' → Q false h') : im y nm hh Q := by
  unfold szD at hs
  refine ak fun h1 e1 => ⟨_, ao e1 hc (by simp), rfl, ak fun h2 e2 => ?_⟩
  have e12 := e1.trans e2
  refine seq.cut (fun b h3 => Ext hh h3 ∧ b = true) ?_ fun b h3 ⟨e3, hb⟩ => by subst hb; exact K h3 e3
  refine gQ (x := dA y) (R.ext ht e12) (q.ext e12).a (by omega) fun h3 e3 => ⟨fun _ => ?_, fun h => (by cases h)⟩
  exact gQ (x := dB y) (R.ext ht (e12.trans e3)) (q.ext (e12.trans e3)).b (by omega) fun h4 e4 => ⟨e12.trans (e3.trans e4), rfl⟩
theorem agJ {hh : Heap} {nm : Addr} {s : Sl} {vs : DL} {Q : Bool → Heap → Prop} (ht : Tab hh) (hc : cell? hh nm = some (FnV.toV (FnV.mk 84 [] []))) (q : RowQ C6 6 DQ hh s vs) (hs : ∀ v ∈ vs, szD v ≤ 1000) (hl : vs.length ≤ 1000) (K : ∀ h', Ext hh h' → Q false h') :
    aE s nm hh Q := by
  refine tP (toC := C6) (P := fun _ => False) (f := fun v h Q => im (v.1, v.2.1, v.2.2.1, v.2.2.2.1, v.2.2.2.2.1, v.2.2.2.2.2) nm h Q) DQ.ext' (fun {h' y m Q} e hm r k => ?_) q (by omega) fun b h' hb e => ?_
  · exact agU (y := y) (R.ext ht e) (ao e hc (by simp)) r (hs m hm) fun h2 e2 => k false h2 (by simp) e2
  · have : b = false := by
      cases b with
      | false => rfl
      | true => obtain ⟨_, _, h⟩ := hb.1 rfl; exact h.elim
    subst this
    exact K h' e
theorem agY {hh : Heap} {s : Sl} {es : List Eg} {Q : Bool → Heap → Prop} (ht : Tab hh) (q : RowQ C7 7 EQ hh s es) (hs : ∀ v ∈ es, szD v.2 ≤ 1000) (hl : es.length ≤ 2000) (K : ∀ b h', (b = true ↔ ∃ e ∈ es, ¬ (e.1 = 0 → e.2 = (0, 0))) → Ext hh h' → Q b h') :
    aH s hh Q := by
  refine tP (toC := C7) (P := fun e => ¬ (e.1 = 0 → e.2 = (0, 0))) (f := fun v h Q => kg (v.1, v.2.1, v.2.2.1, v.2.2.2.1, v.2.2.2.2.1, v.2.2.2.2.2.1, v.2.2.2.2.2.2) h Q) EQ.ext' (fun {h' y m Q} e hm r k => ?_) q (by omega) K
  refine ak fun h1 e1 => ahN (y := y) (R.ext ht (e.trans e1)) (r.ext e1) (hs m hm) fun h2 e2 => k _ h2 ?_ (e1.trans e2)
  simp
theorem ag7 {hh : Heap} {c0 c1 : Addr} {s : Sl} {ms : PL} {n : Nat} {Q : Bool → Heap → Prop} (hm : MK K0 hh s ms) (hn : cell? hh c0 = some (Value.int .i64 (n : Int))) (hc : cells? hh c1 5 0 = some (CT x)) (hb : RJ hh x.1 t.bs) (hl : t.bs.length ≤ 1000) (hml : ms.length ≤ 1000)
    (K : ∀ b h', (b = true ↔ ∃ m ∈ ms, ¬ (m.1 < (n : Int) ∧ rowI t.bs m.1 < 0)) → Ext hh h' → Q b h') : aI s c0 c1 hh Q := by
  have q : RowQ C4 4 (fun h (y : Y4) (m : Int × Rat) => y.1 = m.1) hh s ms := by
    obtain ⟨ys, h1, h2⟩ := hm.row
    exact ⟨hm.cap, ys, h1, h2.imp fun y m h => h.1⟩
  refine tP (toC := C4) (P := fun m : Int × Rat => ¬ (m.1 < (n : Int) ∧ rowI t.bs m.1 < 0)) (f := fun v h Q => kh (v.1, v.2.1, v.2.2.1, v.2.2.2) c0 c1 h Q) (fun _ _ _ _ h _ => h) (fun {h' y m Q} e hmm r k => ?_) q (by omega) K
  refine ak fun h1 e1 => ?_
  have e01 := e.trans e1
  refine seq.cut (fun b h2 => Ext h' h2 ∧ (b = true ↔ ¬ (m.1 < (n : Int) ∧ rowI t.bs m.1 < 0))) ?_ fun b h2 ⟨e2, hb2⟩ => k b h2 hb2 e2
  refine ⟨_, ao e01 hn (by simp), ?_⟩
  have r : y.1 = m.1 := r
  refine ⟨fun hge => ⟨e1, fun _ hh => ?_, fun _ => rfl⟩, fun hlt => ⟨x, aO e01 hc, ?_⟩⟩
  · have := of_decide_eq_true hge; rw [r] at this; omega
  · have hlt := of_decide_eq_false hlt
    rw [r] at hlt
    dsimp only
    rw [r]
    refine adp (R.ext hb e01) (by omega) fun h3 e3 => ⟨e1.trans e3, ?_⟩
    rw [decide_eq_true_iff]
    constructor
    · intro h hh; omega
    · intro h; exact Classical.byContradiction fun hn => h ⟨by omega, by omega⟩
end Go.Sh

namespace Go.Sh
open Go Go.Lift
section
variable {B : Nat} {h : Heap} {s : Sl} {ys : List One} {a : Addr}
end
section
variable {α : Type} {toC : α → List Value} {sz B : Nat} {h h' : Heap} {s : Sl} {xs : List α}
end
end Go.Sh

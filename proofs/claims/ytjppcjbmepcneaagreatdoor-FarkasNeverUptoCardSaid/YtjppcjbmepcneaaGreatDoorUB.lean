/-
  Laws that the proof of this claim's statement leans on, each proved under the conditions that it states.
-/
import Derived.Test.YtjppcjbmepcneaaGreatDoorUA
set_option linter.unusedVariables false
set_option linter.unusedSimpArgs false
namespace Go.Sh
open Go Go.Lift
theorem szD_zero : szD (0, 0) = 0 := by unfold szD; simp [sz_zero]
theorem szD_plus (p q : Rat × Rat) : szD (addD p q) ≤ szD p + szD q + 2 := by
  have := sz_add p.1 q.1; have := sz_add p.2 q.2
  unfold szD addD at *; simp only; omega
theorem szD_times (c : Rat) (p : Rat × Rat) : szD (scD c p) ≤ szQ c + szD p + 2 := by
  have := sz_mul c p.1; have := sz_mul c p.2
  unfold szD scD at *; simp only; omega
section
variable {h0 h : Heap} {a : Addr} {lim : Nat}
end
theorem cmpR_eq0 {p q : Rat} : cmpR p q = 0 ↔ p = q := by
  unfold cmpR
  rw [Int.sign_eq_zero_iff_zero, Rat.num_eq_zero]
  constructor
  · intro h; have : p = (p - q) + q := by grind
    rw [this, h]; grind
  · rintro rfl; grind
theorem rightQ_true {h : Heap} {x : X3} {q : Rat} {Q : Bool → Heap → Prop} (ht : Tab h) (hq : RQ h x q) (hs : szQ q ≤ 1000) (K : ∀ h', Ext h h' → Q true h') : ratio_Right x h Q := by
  obtain ⟨xs, ys, hX, _, _, l1, l2⟩ := hq.xr
  have := nl_num_le q; have := nl_dn_le q
  refine RightQ_spec ht hX (by omega) (by omega) fun b h' hb e => ?_
  rw [hb.2 ⟨q, hq⟩]
  exact K h' e
end Go.Sh

namespace Go.Sh
open Go Go.Lift
section
variable {α : Type} {toC : α → List Value} {sz B : Nat} {h h' : Heap} {s x : Sl} {xs ys : List α}
theorem OwnS.cap (ho : OwnS toC sz B h s xs) (h0 : 0 < sz) : s.len ≤ s.cap := by
  obtain ⟨_, zs, _, h2⟩ := ho
  have := h2.r.cap
  simp only [Sl.sc] at this
  exact Nat.le_of_mul_le_mul_right this h0
end
theorem OwnS.row {α β : Type} {toC : α → List Value} {sz B : Nat} {R : Heap → α → β → Prop} {h : Heap} {s : Sl} {ys : List α} {ms : List β} (ho : OwnS toC sz B h s ys) (hsz : ∀ x, (toC x).length = sz) (h0 : 0 < sz) (ha : All2 (R h) ys ms) : RowQ toC sz R h s ms :=
  ⟨ho.cap h0, ys, ho.rs hsz h0, ha⟩
end Go.Sh

namespace Go.Sh
open Go Go.Lift
variable {h0 h : Heap} {x y : S5} {t u : TT} {L B : Nat}
end Go.Sh

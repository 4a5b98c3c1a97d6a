/-
  Laws that the proof of this claim's statement leans on, each proved under the conditions that it states.
-/
import Derived.Test.YtlclchgingkkhaaGreatDoorMB
import Derived.Test.YtlclchgingkkhaaGreatDoorXC
set_option linter.unusedVariables false
set_option linter.unusedSimpArgs false
namespace Go.Sh
open Go Go.Lift
section
variable {t t' : TT} {n : Nat}
theorem Wst.eq (g : RG t) {i k : Nat} {up c : Bool} (w : Wst t i up) (hk : k < t.ps.length) (hv : viol t k c = true) (hm : ∀ l d, l < t.ps.length → viol t l d = true → at0 t.bs k ≤ at0 t.bs l) : i = k := by
  have h1 := w.min k c hk hv
  have h2 := hm i up w.lt w.v
  have h3 := g.me w.lt
  have h4 := g.me hk
  have : at0 t.bs i = at0 t.bs k := by omega
  rw [this] at h3
  omega
theorem Wst.side {i : Nat} {up : Bool} (w : Wst t i up) : viol t i false = !up := by
  cases up
  · exact w.v
  · exact w.no rfl
theorem St1.none {lim : Nat} {st : Int} {rs : PL} (D : St1 lim t t' st rs) (h : ∀ k c, k < t.ps.length → viol t k c = false) : t' = t ∧ st = 0 ∧ rs = [] := by
  cases D with
  | fine => exact ⟨rfl, rfl, rfl⟩
  | clash i up w => have := h i up w.lt; rw [w.v] at this; cases this
  | move i up j m w => have := h i up w.lt; rw [w.v] at this; cases this
theorem St1.some {lim : Nat} {st : Int} {rs : PL} (D : St1 lim t t' st rs) {k : Nat} {c : Bool} (hk : k < t.ps.length) (hv : viol t k c = true) : ∃ i up, Wst t i up ∧
    ((∀ m ∈ (psA t i).2, rm t up m = false) → t' = t ∧ st = 2 ∧ rs = rsn t i up) ∧
    (∀ j, Fst t i up j → ∃ m, (psA t i).2[j]? = some m ∧ (∀ e ∈ (updT t m.1 (goD t i up m)).vs, szD e ≤ lim) ∧ (∀ p ∈ (pivT (updT t m.1 (goD t i up m)) i m.1).ps, bg lim p = true) ∧ szD (goD t i up m) ≤ lim ∧ t' = pivT (updT t m.1 (goD t i up m)) i m.1 ∧ st = 1 ∧ rs = []) := by
  cases D with
  | fine h => rw [h k c hk] at hv; cases hv
  | clash i up w h => exact ⟨i, up, w, fun _ => ⟨rfl, rfl, rfl⟩, fun j f => by have := h _ (List.getElem_mem f.lt); rw [f.ok] at this; cases this⟩
  | move i up j m w f hm h1 h2 h3 =>
    subst hm
    refine ⟨i, up, w, fun h => (by have := h _ (List.getElem_mem f.lt); rw [f.ok] at this; cases this), fun j' f' => ?_⟩
    have : j' = j := by
      rcases Nat.lt_trichotomy j' j with h | h | h
      · have := f.min j' h; rw [f'.ok] at this; cases this
      · exact h
      · have := f'.min j h; rw [f.ok] at this; cases this
    subst this
    exact ⟨_, List.getElem?_eq_getElem f.lt, h1, h2, h3, rfl, rfl, rfl⟩
end
section
variable {K : Nat → Prop} {h : Heap} {y : S5} {t t' : TT} {n : Nat} {st : Int} {rs : PL}
end
end Go.Sh

namespace Go.Sh
open Go Go.Lift
abbrev AA := Bool × Int × Int × Bool × Bool × Sl × Sl × Bool × Sl × Sl
abbrev CA := ay
structure RawC (h : Heap) (y : AA) : Prop where
  x : Raw6 h y.2.2.2.2
  v : -9223372036854775808 ≤ y.2.1 ∧ y.2.1 ≤ 9223372036854775807
section
variable {t t' : TT} {n : Nat} {v : Int} {up : Bool} {e : Eg} {rs : PL} {er : Int}
theorem Bd.fit (D : Bd 60 t v up e t' rs er) (f : FitT t n) (hz : szD e.2 ≤ 60) : FitT t' n ∧ rs.length ≤ 1000 := by
  cases D with
  | rng => exact ⟨f, by decide⟩
  | arg => exact ⟨f, by decide⟩
  | old => exact ⟨f, by decide⟩
  | cla => exact ⟨f, by simp⟩
  | set h1 h2 h3 => exact ⟨f.setE h3 hz, by decide⟩
  | upd h1 h2 h3 h4 h5 h6 h7 h8 => exact ⟨(f.setE h3 hz).upd h1 (by rw [eP]; exact h2) (by rw [fm]; exact h6) h8, by decide⟩
theorem St1.fit {st : Int} (D : St1 60 t t' st rs) (f : FitT t n) : FitT t' n ∧ rs.length ≤ 1000 := by
  cases D with
  | fine => exact ⟨f, by decide⟩
  | clash i up w =>
    have := (f.fl.ok (psA t i) (by rw [br w.lt]; exact List.getElem_mem _)).len
    exact ⟨f, by simp [rsn]; omega⟩
  | move i up j m w F hm h1 h2 h3 =>
    subst hm
    obtain ⟨v1, v2, v3, v4, v5, v6⟩ := f.fl.var w.lt (List.getElem_mem F.lt)
    have hc : ak (psA (updT t ((psA t i).2[j]'F.lt).1 (goD t i up ((psA t i).2[j]'F.lt))) i).2 ((psA t i).2[j]'F.lt).1 ≠ 0 := by
      show ak (psA t i).2 _ ≠ 0
      rw [v5]; exact v4
    exact ⟨(f.upd v1 v2 v3 h1).piv w.lt hc h2, by decide⟩
end
theorem za {h0 h1 : Heap} {x : X6} {R : Bool → Heap → Prop} (hr : Raw6 h0 x) (e0 : Ext h0 h1) (K : ∀ b h2, (b = false → Sm h0 x) → Ext h1 h2 → R b h2) :
    new [Value.bool x.1, Sl.toV x.2.1, Sl.toV x.2.2.1, Value.bool x.2.2.2.1, Sl.toV x.2.2.2.2.1, Sl.toV x.2.2.2.2.2] h1 fun a h2 => ji (⟨some a, 1, 1⟩ : Sl) h2 R := by
  intro T
  have e2 := Ext.push h1 (.cells [Value.bool x.1, Sl.toV x.2.1, Sl.toV x.2.2.1, Value.bool x.2.2.2.1, Sl.toV x.2.2.2.2.1, Sl.toV x.2.2.2.2.2].toArray T (0, 0))
  have r2 : RR6 _ (⟨some ⟨h1.size, 0, none⟩, 1, 1⟩ : Sl) [x] := RS.new (h := h1) (cs := [Value.bool x.1, Sl.toV x.2.1, Sl.toV x.2.2.1, Value.bool x.2.2.2.1, Sl.toV x.2.2.2.2.1, Sl.toV x.2.2.2.2.2]) (T := T) len6 rfl rfl
  exact abs r2 (e0.trans e2) (by simp) (fun y hy => by simp at hy; subst hy; exact hr) fun b h3 hb e3 => K b h3 (fun hf => hb hf x (by simp)) (e2.trans e3)
end Go.Sh

namespace Go.Sh
open Go Go.Lift
end Go.Sh

/-
  Laws that the proof of this claim's statement leans on, each proved under the conditions that it states.
-/
import Derived.Test.YtjppcjbmepcneaaGreatDoorUE
import Derived.Test.YtjppcjbmepcneaaGreatDoorSpW
set_option linter.unusedVariables false
set_option linter.unusedSimpArgs false
namespace Go.Sh
open Go Go.Lift
def SmT (h : Heap) (x : S5) : Prop := ∃ t, TQ h x t ∧ TSz t 12 6
theorem odd1uspec {h0 h : Heap} {x : X6} {R : Bool → Heap → Prop} (hr : Raw6 h0 x) (e0 : Ext h0 h) (K : ∀ b h2, (b = false → Sm h0 x) → Ext h h2 → R b h2) :
    mem h fun h1 => new [Value.bool x.1, Sl.toV x.2.1, Sl.toV x.2.2.1, Value.bool x.2.2.2.1, Sl.toV x.2.2.2.2.1, Sl.toV x.2.2.2.2.2] h1 fun a h2 => law03uOdd (⟨some a, 1, 1⟩ : Sl) h2 R := by
  refine mem_ext fun h1 e1 => ?_
  intro T
  have e2 := Ext.push h1 (.cells [Value.bool x.1, Sl.toV x.2.1, Sl.toV x.2.2.1, Value.bool x.2.2.2.1, Sl.toV x.2.2.2.2.1, Sl.toV x.2.2.2.2.2].toArray T (0, 0))
  have r2 : RR6 _ (⟨some ⟨h1.size, 0, none⟩, 1, 1⟩ : Sl) [x] := RS.new (h := h1) (cs := [Value.bool x.1, Sl.toV x.2.1, Sl.toV x.2.2.1, Value.bool x.2.2.2.1, Sl.toV x.2.2.2.2.1, Sl.toV x.2.2.2.2.2]) (T := T) len6 rfl rfl
  exact Odd_spec r2 (e0.trans (e1.trans e2)) (by simp) (fun y hy => by simp at hy; subst hy; exact hr) fun b h3 hb e3 => K b h3 (fun hf => hb hf x (by simp)) (e1.trans (e2.trans e3))
theorem All2.choose {α β : Type} {P : α → β → Prop} : ∀ {l : List α}, (∀ x ∈ l, ∃ b, P x b) → ∃ ms, All2 P l ms
  | [], _ => ⟨[], .nil⟩
  | x :: l, h => by
    obtain ⟨b, hb⟩ := h x (by simp)
    obtain ⟨ms, hm⟩ := All2.choose (l := l) fun y hy => h y (by simp [hy])
    exact ⟨b :: ms, .cons hb hm⟩
theorem All2.right {α β : Type} {P : α → β → Prop} {S : β → Prop} {l : List α} {ms : List β} (h : All2 P l ms) (hS : ∀ a b, P a b → S b) : ∀ m ∈ ms, S m := by
  induction h with
  | nil => intro m hm; simp at hm
  | cons h1 _ ih => intro m hm; rcases List.mem_cons.1 hm with rfl | hm; exact hS _ _ h1; exact ih m hm
end Go.Sh

namespace Go.Sh
open Go Go.Lift
abbrev shD : Shape := .cat shQ (.cat shQ .nil)
theorem RawB.raw {h : Heap} {x : X3} (hx : RawB h x) : Raw3 h x := by
  obtain ⟨a, b, h1, _⟩ := hx
  exact ⟨a, b, h1⟩
theorem is_dB {h : Heap} {cs : List Value} (H : shD.IsB 1048576 h cs) : ∃ x : X6, cs = C6 x ∧ Raw6 h x := by
  obtain ⟨l, r, rfl, h1, l2, r2, rfl, h2, rfl⟩ := H
  obtain ⟨x, rfl, hx⟩ := is_qB h1
  obtain ⟨y, rfl, hy⟩ := is_qB h2
  exact ⟨(x.1, x.2.1, x.2.2, y.1, y.2.1, y.2.2), rfl, hx.raw, hy.raw⟩
end Go.Sh

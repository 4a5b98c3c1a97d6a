/-
  Laws that the proof of this claim's statement leans on, each proved under the conditions that it states.
-/
import Derived.Test.YtlclchgingkkhaaGreatDoorUE
import Derived.Test.YtlclchgingkkhaaGreatDoorSpW
set_option linter.unusedVariables false
set_option linter.unusedSimpArgs false
namespace Go.Sh
open Go Go.Lift
def SmT (h : Heap) (x : S5) : Prop := ∃ t, TQ h x t ∧ TSz t 12 6
theorem Raw6.ext {h h' : Heap} {x : X6} (hx : Raw6 h x) (e : Ext h h') : Raw6 h' x := by
  obtain ⟨⟨a, b, h1⟩, ⟨c, d, h2⟩⟩ := hx
  exact ⟨⟨a, b, h1.ext e⟩, ⟨c, d, h2.ext e⟩⟩
theorem All2.choose {α β : Type} {P : α → β → Prop} : ∀ {l : List α}, (∀ x ∈ l, ∃ b, P x b) → ∃ ms, All2 P l ms
  | [], _ => ⟨[], .nil⟩
  | x :: l, h => by
    obtain ⟨b, hb⟩ := h x (by simp)
    obtain ⟨ms, hm⟩ := All2.choose (l := l) fun y hy => h y (by simp [hy])
    exact ⟨b :: ms, .cons hb hm⟩
theorem All2.right {α β : Type} {P : α → β → Prop} {S : β → Prop} {l : List α} {ms : List β} (h : All2 P l ms) (hS : ∀ a b, P a b → S b) : ∀ m ∈ ms, S m := by
  induction h with
  | nil => intro m hm; simp at hm
  | cons h1 _ ih => intro m hm; rcases List.mem_cons.1 hm with rfl | hm; exact hS _ _ h1; exact ih m hm
theorem SmT.of {h : Heap} {x : S5} {bs : List Int} {ys : List X4} {vs : List X6} {ls us : List E7} (b : RJ h x.1 bs) (r : RS CP 4 h x.2.1 ys) (rc : x.2.1.len ≤ x.2.1.cap) (v : RS C6 6 h x.2.2.1 vs) (vc : x.2.2.1.len ≤ x.2.2.1.cap)
    (l : RS C7 7 h x.2.2.2.1 ls) (lc : x.2.2.2.1.len ≤ x.2.2.2.1.cap) (u : RS C7 7 h x.2.2.2.2 us) (uc : x.2.2.2.2.len ≤ x.2.2.2.2.cap) (n1 : bs.length ≤ 20) (n2 : ys.length ≤ 6) (n3 : vs.length ≤ 20) (n4 : ls.length ≤ 20) (n5 : us.length ≤ 20)
    (s1 : ∀ y ∈ ys, SmP h y) (s2 : ∀ y ∈ vs, Sm h y) (s3 : ∀ y ∈ ls, Sm h (eD y)) (s4 : ∀ y ∈ us, Sm h (eD y)) : SmT h x := by
  obtain ⟨ps, hp⟩ := All2.choose (P := fun y p => PQ h y p ∧ Few4 p) s1
  obtain ⟨ds, hd⟩ := All2.choose (P := fun y p => DQ h y p ∧ szD p ≤ 6) s2
  have ed : ∀ {zs : List E7}, (∀ y ∈ zs, Sm h (eD y)) → ∃ es : List Eg, All2 (fun y e => EQ h y e ∧ szD e.2 ≤ 6) zs es := fun {zs} hz => All2.choose fun y hy => by
    obtain ⟨p, hp, sp⟩ := hz y hy
    exact ⟨(y.1, p), ⟨rfl, hp⟩, sp⟩
  obtain ⟨es, he⟩ := ed s3
  obtain ⟨fs, hf⟩ := ed s4
  have l1 := hp.length; have l2 := hd.length; have l3 := he.length; have l4 := hf.length
  refine ⟨⟨bs, ps, ds, es, fs⟩, ⟨b, ⟨rc, ys, r, hp.imp fun _ _ h => h.1⟩, ⟨vc, vs, v, hd.imp fun _ _ h => h.1⟩, ⟨lc, ls, l, he.imp fun _ _ h => h.1⟩, ⟨uc, us, u, hf.imp fun _ _ h => h.1⟩⟩, ?_⟩
  exact ⟨hp.right fun _ _ h => h.2.rt, hp.right fun _ _ h => h.2.n, hp.right fun _ _ h => h.2.c, hp.right fun _ _ h => h.2.m, hd.right fun _ _ h => h.2, he.right fun _ _ h => h.2, hf.right fun _ _ h => h.2, by dsimp only; omega, by dsimp only; omega, by dsimp only; omega, by dsimp only; omega, by dsimp only; omega⟩
end Go.Sh

namespace Go.Sh
open Go Go.Lift
abbrev shD : Shape := .cat shQ (.cat shQ .nil)
abbrev shE : Shape := .cat (.int .i64) (.cat shD .nil)
theorem RawB.raw {h : Heap} {x : X3} (hx : RawB h x) : Raw3 h x := by
  obtain ⟨a, b, h1, _⟩ := hx
  exact ⟨a, b, h1⟩
theorem adz {h : Heap} {cs : List Value} (H : shD.IsB 1048576 h cs) : ∃ x : X6, cs = C6 x ∧ Raw6 h x := by
  obtain ⟨l, r, rfl, h1, l2, r2, rfl, h2, rfl⟩ := H
  obtain ⟨x, rfl, hx⟩ := aaS h1
  obtain ⟨y, rfl, hy⟩ := aaS h2
  exact ⟨(x.1, x.2.1, x.2.2, y.1, y.2.1, y.2.2), rfl, hx.raw, hy.raw⟩
end Go.Sh

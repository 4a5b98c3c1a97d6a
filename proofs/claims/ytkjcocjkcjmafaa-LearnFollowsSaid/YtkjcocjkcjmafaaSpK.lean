/-
  Laws that the proof of this claim's statement leans on, each proved under the conditions that it states.
-/
import Derived.Test.YtkjcocjkcjmafaaSpJ
set_option linter.unusedVariables false
set_option linter.unusedSimpArgs false
namespace Go.Sh
open Go Go.Lift Go.Cla
variable {h0 hq h h' : Heap} {x : S8} {S : SS} {nx : Int} {ls : List Int} {st : AE} {v w : Sl} {b1 b2 : Nat}
theorem push1 {B : Nat} {s : Sl} {xs : List Int} {y : Int} {k : Sl → Heap → Prop} (o : Own toI B h s xs) (hB : B ≤ h.size) (hl : xs.length ≤ 1000000)
    (K : ∀ s' h', Own toI B h' s' (xs ++ [y]) → Keep s.blk h h' → (s'.blk = s.blk ∨ ∃ b, s'.blk = some b ∧ h.size ≤ b) → k s' h') : new [Value.int .i64 y] h fun a h1 => appendS 1 8 s (⟨some a, 1, 1⟩ : Sl) h1 k := by
  intro T
  have e1 : Ext h (h.push (.cells [Value.int .i64 y].toArray T (0, 0))) := Ext.push _ _
  have n1 : Own toI h.size (h.push (.cells [Value.int .i64 y].toArray T (0, 0))) ⟨some ⟨h.size, 0, none⟩, [y].length, [y].length⟩ [y] := Own.new rfl
  have hs1 := e1.size
  generalize h.push (.cells [Value.int .i64 y].toArray T (0, 0)) = h1 at *
  refine (o.ext e1).append (by omega) n1.r (fun _ => rfl) (by simp; omega) fun s' h2 o2 k2 hbk => K s' h2 o2 ((Keep.of_ext e1).trans k2) ?_
  rcases hbk with hb | ⟨hb, _⟩
  · exact .inl hb
  · exact .inr ⟨h1.size, hb, hs1⟩
theorem RF.keepO {n : Nat} {f : Nat → Int} {g : Nat → Bool} {o : Option Nat} (q : RF n h0 h v w b1 b2 f g) (k : Keep o h h') (ho : ∀ b, o = some b → h0.size ≤ b ∧ b ≠ b1 ∧ b ≠ b2) : RF n h0 h' v w b1 b2 f g := by
  refine ⟨?_, q.o1.keep k fun b hb e => ?_, q.o2.keep k fun b hb e => ?_, q.vb, q.wb, q.ne⟩
  · refine ⟨Nat.le_trans q.ext.size k.size, fun b hb _ => ?_⟩
    rw [k.same b (Nat.lt_of_lt_of_le hb q.ext.size) fun e => ?_, q.ext.same b hb (by simp)]
    have := (ho b e.symm).1; omega
  · rw [q.vb] at hb; cases hb; exact (ho _ e.symm).2.1 rfl
  · rw [q.wb] at hb; cases hb; exact (ho _ e.symm).2.2 rfl
variable {o sn : Sl} {L1 L2 : List Int}
end Go.Sh

namespace Go.Sh
open Go Go.Lift Go.Cla
variable {h0 h h' : Heap} {x : S8} {S : SS} {nx : Int} {ls : List Int} {st : AE} {v w : Sl} {b1 b2 : Nat}
theorem max_of {p : Nat → Bool} : ∀ m, (∃ q, q < m ∧ p q = true) → ∃ q, q < m ∧ p q = true ∧ ∀ r, r < m → p r = true → r ≤ q := by
  intro m
  induction m with
  | zero => rintro ⟨q, hq, _⟩; omega
  | succ m ih =>
    intro h
    by_cases e : p m = true
    · exact ⟨m, by omega, e, fun r hr _ => by omega⟩
    · obtain ⟨q, hq, hp⟩ := h
      have hqm : q ≠ m := fun g => e (g ▸ hp)
      obtain ⟨r, h1, h2, h3⟩ := ih ⟨q, by omega, hp⟩
      refine ⟨r, by omega, h2, fun t ht hpt => ?_⟩
      have : t ≠ m := fun g => e (g ▸ hpt)
      exact h3 t (by omega) hpt
theorem InvW.last {i : Nat} (I : InvW S i st) : ∃ p, p < S.tra.length ∧ p < i ∧ inH S st p = true ∧ (∀ q, q < S.tra.length → inH S st q = true → q ≤ p) ∧ InvW S (p + 1) st := by
  obtain ⟨p, h1, h2, h3⟩ := max_of S.tra.length (cnt_pos I.one)
  refine ⟨p, h1, I.pos p h1 h2, h2, h3, I.sub, I.inn, fun q hq hp => by have := h3 q hq hp; omega, I.one, fun v hv => (I.old v hv).imp id fun ⟨q, g1, g2, g3⟩ => ⟨q, by have := I.pos p h1 h2; omega, g2, g3⟩⟩
theorem st0uA {j : Nat} : (st0 S ls).A j = true ↔ j ∈ ls.map tr ∧ 0 < atI S.lev j := by
  constructor
  · intro h
    rcases adds_A h with g | g
    · cases g
    · exact g
  · rintro ⟨h1, h2⟩
    exact adds_in h2 _ _ h1
end Go.Sh

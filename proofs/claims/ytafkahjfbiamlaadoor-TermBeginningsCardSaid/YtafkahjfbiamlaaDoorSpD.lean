/-
  Laws that the proof of this claim's statement leans on, each proved under the conditions that it states.
-/
import Derived.Test.YtafkahjfbiamlaaDoorSpG
set_option linter.unusedVariables false
set_option linter.unusedSimpArgs false
namespace Go.Sh
open Go Go.Lift

end Go.Sh

namespace Go.Sh
open Go Go.Lift

/-- A number in decimal digits, in its one form. -/
def DN (h : Heap) (s : Sl) (n : Nat) : Prop := ∃ xs, RI .i64 h s xs ∧ Lim 10 xs ∧ Nrm xs ∧ val 10 xs = n
theorem DN.ext {h h' : Heap} {s : Sl} {n : Nat} (hn : DN h s n) (k : Ext h h') : DN h' s n := by
  obtain ⟨xs, h1, h2⟩ := hn
  exact ⟨xs, h1.ext k, h2⟩
theorem DN.keepO {h h' : Heap} {s : Sl} {n : Nat} {o : Option Nat} (hn : DN h s n) (k : Keep o h h') (hne : ∀ b, s.blk = some b → o ≠ some b) : DN h' s n := by
  obtain ⟨xs, h1, h2⟩ := hn
  exact ⟨xs, h1.keep k (fun a ha => fun e => hne a.block (by simp [Sl.blk, ha]) e.symm), h2⟩
theorem DN.len_zero {h : Heap} {s : Sl} {n : Nat} (hs : DN h s n) : s.len = 0 ↔ n = 0 := by
  obtain ⟨xs, h1, h2, h3, h4⟩ := hs
  rw [h1.len]
  constructor
  · intro h; have := List.eq_nil_of_length_eq_zero h; subst this; exact h4.symm
  · intro h; subst h; rw [val_zero (by decide) h3 h4]; rfl
end Go.Sh

namespace Go.Sh
open Go Go.Lift

end Go.Sh

namespace Go.Sh
open Go Go.Lift

end Go.Sh

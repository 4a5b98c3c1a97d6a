/-
  Laws that the proof of this claim's statement leans on, each proved under the conditions that it states.
-/
import Derived.Test.YtlclchgingkkhaaGreatDoorSpR
set_option linter.unusedVariables false
set_option linter.unusedSimpArgs false
namespace Go.Sh
open Go Go.Lift
def dg (n : Nat) : List Nat := if h : n = 0 then [] else n % 10 :: dg (n / 10)
termination_by n
decreasing_by omega
def tN (n : Nat) : ByteArray := bytesOf (strDig (dg n))
section
variable {h : Heap} {x : Bool × Sl × Sl} {q : Rat} {Q : ByteArray → Heap → Prop}
end
end Go.Sh

namespace Go.Sh
open Go Go.Lift
def isDec (c : List Nat) (n k : Nat) : Prop :=
  (digs c = true ∧ c ≠ [] ∧ n = dv c ∧ k = 0) ∨
  ∃ p, 0 < p ∧ p + 1 < c.length ∧ c[p]? = some 46 ∧ digs (c.take p) = true ∧ digs (c.drop (p + 1)) = true ∧ n = dv (c.take p ++ c.drop (p + 1)) ∧ k = c.length - (p + 1)
theorem digs_mem {c : List Nat} (h : digs c = true) : ∀ x ∈ c, 48 ≤ x ∧ x ≤ 57 := by
  unfold digs at h
  simp only [List.all_eq_true, Bool.and_eq_true, decide_eq_true_eq] at h
  exact h
theorem digs_append {a b : List Nat} : digs (a ++ b) = true ↔ digs a = true ∧ digs b = true := by
  unfold digs; simp [List.all_append]
theorem no46 {c : List Nat} (h : digs c = true) : ∀ x ∈ c, x ≠ 46 := fun x hx => by have := digs_mem h x hx; omega
theorem isDec.uniq {c : List Nat} {n k n' k' : Nat} (h : isDec c n k) (h' : isDec c n' k') : n = n' ∧ k = k' := by
  rcases h with ⟨h1, h2, rfl, rfl⟩ | ⟨p, hp0, hp1, hp2, hp3, hp4, rfl, rfl⟩
  · rcases h' with ⟨_, _, rfl, rfl⟩ | ⟨p, _, hp1, hp2, _⟩
    · exact ⟨rfl, rfl⟩
    · exact absurd rfl (no46 h1 46 (List.mem_of_getElem? hp2))
  · rcases h' with ⟨h1, _⟩ | ⟨q, hq0, hq1, hq2, hq3, hq4, rfl, rfl⟩
    · exact absurd rfl (no46 h1 46 (List.mem_of_getElem? hp2))
    · have : p = q := by
        rcases Nat.lt_trichotomy p q with h | h | h
        · exfalso
          have : (c.take q)[p]? = some 46 := by rw [List.getElem?_take, if_pos h]; exact hp2
          exact no46 hq3 46 (List.mem_of_getElem? this) rfl
        · exact h
        · exfalso
          have : (c.take p)[q]? = some 46 := by rw [List.getElem?_take, if_pos h]; exact hq2
          exact no46 hp3 46 (List.mem_of_getElem? this) rfl
      subst this
      exact ⟨rfl, rfl⟩
theorem isDec.nl {c : List Nat} {n k : Nat} (h : isDec c n k) : nl n ≤ c.length ∧ k ≤ c.length := by
  rcases h with ⟨h1, h2, rfl, rfl⟩ | ⟨p, hp0, hp1, hp2, hp3, hp4, rfl, rfl⟩
  · exact ⟨dv_nl h1 (Nat.le_refl _), Nat.zero_le _⟩
  · exact ⟨dv_nl (digs_append.2 ⟨hp3, hp4⟩) (by simp; omega), by omega⟩
section
variable {a : Addr} {lim : Nat} {ov : Bool} {s : ByteArray} {h : Heap}
end
end Go.Sh

namespace Go.Sh
open Go Go.Lift
theorem digs_cons {x : Nat} {l : List Nat} : digs (x :: l) = true ↔ (48 ≤ x ∧ x ≤ 57) ∧ digs l = true := by
  unfold digs; simp
structure Seen (c : List Nat) (j : Nat) (pt : Int) (ds : List Nat) : Prop where
  le : j ≤ c.length
  cases : (pt = -1 ∧ digs (c.drop j) = true ∧ ds = (c.drop j).reverse.map (· - 48)) ∨
    ∃ p : Nat, pt = (p : Int) ∧ j ≤ p ∧ 0 < p ∧ p + 1 < c.length ∧ c[p]? = some 46 ∧ digs ((c.take p).drop j) = true ∧ digs (c.drop (p + 1)) = true ∧ ds = ((c.take p).drop j ++ c.drop (p + 1)).reverse.map (· - 48)
theorem Seen.start (c : List Nat) : Seen c c.length (-1) [] := ⟨Nat.le_refl _, .inl ⟨rfl, by simp [digs], by simp⟩⟩
theorem Seen.digit {c : List Nat} {j : Nat} {pt : Int} {ds : List Nat} (h : Seen c (j + 1) pt ds) (hx : 48 ≤ c[j]'(by have := h.le; omega) ∧ c[j]'(by have := h.le; omega) ≤ 57) : Seen c j pt (ds ++ [c[j]'(by have := h.le; omega) - 48]) := by
  have hl := h.le
  have hj : j < c.length := by omega
  refine ⟨by omega, ?_⟩
  rcases h.cases with ⟨h1, h2, rfl⟩ | ⟨p, h1, h2, h3, h4, h5, h6, h7, rfl⟩
  · left
    refine ⟨h1, ?_, ?_⟩
    · rw [List.drop_eq_getElem_cons hj]; exact digs_cons.2 ⟨hx, h2⟩
    · rw [List.drop_eq_getElem_cons hj, List.reverse_cons, List.map_append]; rfl
  · right
    have hjp : j < (c.take p).length := by simp; omega
    have e : (c.take p).drop j = c[j] :: (c.take p).drop (j + 1) := by
      rw [List.drop_eq_getElem_cons hjp]; simp
    refine ⟨p, h1, by omega, h3, h4, h5, ?_, h7, ?_⟩
    · rw [e]; exact digs_cons.2 ⟨hx, h6⟩
    · rw [e, List.cons_append, List.reverse_cons, List.map_append]; rfl
theorem Seen.lim {c : List Nat} {j : Nat} {pt : Int} {ds : List Nat} (h : Seen c j pt ds) : Lim 10 ds ∧ ds.length ≤ c.length := by
  have hl := h.le
  rcases h.cases with ⟨_, h2, rfl⟩ | ⟨p, _, h2, _, h4, _, h6, h7, rfl⟩
  · exact ⟨digs_lim h2, by simp⟩
  · exact ⟨digs_lim (digs_append.2 ⟨h6, h7⟩), by simp; omega⟩
end Go.Sh

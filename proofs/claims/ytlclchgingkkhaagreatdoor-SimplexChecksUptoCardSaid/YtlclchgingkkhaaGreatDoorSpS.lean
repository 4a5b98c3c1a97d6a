/-
  Laws that the proof of this claim's statement leans on, each proved under the conditions that it states.
-/
import Derived.Test.YtlclchgingkkhaaGreatDoorSpR
set_option linter.unusedVariables false
set_option linter.unusedSimpArgs false
namespace Go.Sh
open Go Go.Lift
section
variable {h : Heap} {x : Bool × Sl × Sl} {q : Rat} {Q : ByteArray → Heap → Prop}
end
end Go.Sh

namespace Go.Sh
open Go Go.Lift
def isDec (c : List Nat) (n k : Nat) : Prop :=
  (digs c = true ∧ c ≠ [] ∧ n = dv c ∧ k = 0) ∨
  ∃ p, 0 < p ∧ p + 1 < c.length ∧ c[p]? = some 46 ∧ digs (c.take p) = true ∧ digs (c.drop (p + 1)) = true ∧ n = dv (c.take p ++ c.drop (p + 1)) ∧ k = c.length - (p + 1)
theorem lk {c : List Nat} (h : digs c = true) : ∀ x ∈ c, 48 ≤ x ∧ x ≤ 57 := by
  unfold digs at h
  simp only [List.all_eq_true, Bool.and_eq_true, decide_eq_true_eq] at h
  exact h
theorem acx {a b : List Nat} : digs (a ++ b) = true ↔ digs a = true ∧ digs b = true := by
  unfold digs; simp [List.all_append]
theorem no46 {c : List Nat} (h : digs c = true) : ∀ x ∈ c, x ≠ 46 := fun x hx => by have := lk h x hx; omega
theorem isDec.uniq {c : List Nat} {n k n' k' : Nat} (h : isDec c n k) (h' : isDec c n' k') : n = n' ∧ k = k' := by
  rcases h with ⟨h1, h2, rfl, rfl⟩ | ⟨p, hp0, hp1, hp2, hp3, hp4, rfl, rfl⟩
  · rcases h' with ⟨_, _, rfl, rfl⟩ | ⟨p, _, hp1, hp2, _⟩
    · exact ⟨rfl, rfl⟩
    · exact absurd rfl (no46 h1 46 (List.mem_of_getElem? hp2))
  · rcases h' with ⟨h1, _⟩ | ⟨q, hq0, hq1, hq2, hq3, hq4, rfl, rfl⟩
    · exact absurd rfl (no46 h1 46 (List.mem_of_getElem? hp2))
    · have : p = q := by
        rcases Nat.lt_trichotomy p q with h | h | h
        · exfalso
          have : (c.take q)[p]? = some 46 := by rw [List.getElem?_take, if_pos h]; exact hp2
          exact no46 hq3 46 (List.mem_of_getElem? this) rfl
        · exact h
        · exfalso
          have : (c.take p)[q]? = some 46 := by rw [List.getElem?_take, if_pos h]; exact hq2
          exact no46 hp3 46 (List.mem_of_getElem? this) rfl
      subst this
      exact ⟨rfl, rfl⟩
theorem isDec.nl {c : List Nat} {n k : Nat} (h : isDec c n k) : nl n ≤ c.length ∧ k ≤ c.length := by
  rcases h with ⟨h1, h2, rfl, rfl⟩ | ⟨p, hp0, hp1, hp2, hp3, hp4, rfl, rfl⟩
  · exact ⟨acT h1 (Nat.le_refl _), Nat.zero_le _⟩
  · exact ⟨acT (acx.2 ⟨hp3, hp4⟩) (by simp; omega), by omega⟩
section
variable {a : Addr} {lim : Nat} {ov : Bool} {s : ByteArray} {h : Heap}
end
end Go.Sh

namespace Go.Sh
open Go Go.Lift
theorem ado {x : Nat} {l : List Nat} : digs (x :: l) = true ↔ (48 ≤ x ∧ x ≤ 57) ∧ digs l = true := by
  unfold digs; simp
structure Seen (c : List Nat) (j : Nat) (pt : Int) (ds : List Nat) : Prop where
  le : j ≤ c.length
  cases : (pt = -1 ∧ digs (c.drop j) = true ∧ ds = (c.drop j).reverse.map (· - 48)) ∨
    ∃ p : Nat, pt = (p : Int) ∧ j ≤ p ∧ 0 < p ∧ p + 1 < c.length ∧ c[p]? = some 46 ∧ digs ((c.take p).drop j) = true ∧ digs (c.drop (p + 1)) = true ∧ ds = ((c.take p).drop j ++ c.drop (p + 1)).reverse.map (· - 48)
theorem Seen.start (c : List Nat) : Seen c c.length (-1) [] := ⟨Nat.le_refl _, .inl ⟨rfl, by simp [digs], by simp⟩⟩
theorem Seen.digit {c : List Nat} {j : Nat} {pt : Int} {ds : List Nat} (h : Seen c (j + 1) pt ds) (hx : 48 ≤ c[j]'(by have := h.le; omega) ∧ c[j]'(by have := h.le; omega) ≤ 57) : Seen c j pt (ds ++ [c[j]'(by have := h.le; omega) - 48]) := by
  have hl := h.le
  have hj : j < c.length := by omega
  refine ⟨by omega, ?_⟩
  rcases h.cases with ⟨h1, h2, rfl⟩ | ⟨p, h1, h2, h3, h4, h5, h6, h7, rfl⟩
  · left
    refine ⟨h1, ?_, ?_⟩
    · rw [List.drop_eq_getElem_cons hj]; exact ado.2 ⟨hx, h2⟩
    · rw [List.drop_eq_getElem_cons hj, List.reverse_cons, List.map_append]; rfl
  · right
    have hjp : j < (c.take p).length := by simp; omega
    have e : (c.take p).drop j = c[j] :: (c.take p).drop (j + 1) := by
      rw [List.drop_eq_getElem_cons hjp]; simp
    refine ⟨p, h1, by omega, h3, h4, h5, ?_, h7, ?_⟩
    · rw [e]; exact ado.2 ⟨hx, h6⟩
    · rw [e, List.cons_append, List.reverse_cons, List.map_append]; rfl
theorem Seen.bad {c : List Nat} {j : Nat} {pt : Int} {ds : List Nat} (h : Seen c (j + 1) pt ds) (hx : ¬ (48 ≤ c[j]'(by have := h.le; omega) ∧ c[j]'(by have := h.le; omega) ≤ 57)) (hp : ¬ (c[j]'(by have := h.le; omega) = 46 ∧ pt < 0 ∧ 0 < j ∧ j + 1 < c.length)) (n k : Nat) : ¬ isDec c n k := by
  have hl := h.le
  have hj : j < c.length := by omega
  have hcj : c[j]? = some c[j] := List.getElem?_eq_getElem hj
  rintro (⟨h1, _⟩ | ⟨p, hp0, hp1, hp2, hp3, hp4, _⟩)
  · exact hx (lk h1 _ (List.getElem_mem hj))
  · have hjp : j = p := by
      rcases Nat.lt_trichotomy j p with h | h | h
      · exfalso
        have : (c.take p)[j]? = some c[j] := by rw [List.getElem?_take, if_pos h]; exact hcj
        exact hx (lk hp3 _ (List.mem_of_getElem? this))
      · exact h
      · exfalso
        have : (c.drop (p + 1))[j - (p + 1)]? = some c[j] := by rw [List.getElem?_drop, show p + 1 + (j - (p + 1)) = j from by omega]; exact hcj
        exact hx (lk hp4 _ (List.mem_of_getElem? this))
    subst hjp
    have h46 : c[j] = 46 := by rw [hcj] at hp2; exact Option.some.inj hp2
    refine hp ⟨h46, ?_, hp0, hp1⟩
    rcases h.cases with ⟨h1, _⟩ | ⟨q, h1, h2, h3, h4, h5, _⟩
    · omega
    · exfalso
      have : (c.drop (j + 1))[q - (j + 1)]? = some 46 := by rw [List.getElem?_drop, show j + 1 + (q - (j + 1)) = q from by omega]; exact h5
      exact no46 hp4 _ (List.mem_of_getElem? this) rfl
theorem Seen.lim {c : List Nat} {j : Nat} {pt : Int} {ds : List Nat} (h : Seen c j pt ds) : Lim 10 ds ∧ ds.length ≤ c.length := by
  have hl := h.le
  rcases h.cases with ⟨_, h2, rfl⟩ | ⟨p, _, h2, _, h4, _, h6, h7, rfl⟩
  · exact ⟨rI h2, by simp⟩
  · exact ⟨rI (acx.2 ⟨h6, h7⟩), by simp; omega⟩
end Go.Sh

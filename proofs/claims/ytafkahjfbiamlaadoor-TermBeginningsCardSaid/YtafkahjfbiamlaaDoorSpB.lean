/-
  Laws that the proof of this claim's statement leans on, each proved under the conditions that it states.
-/
import Derived.Test.YtafkahjfbiamlaaDoorSpA
set_option linter.unusedVariables false
set_option linter.unusedSimpArgs false
namespace Go.Sh
open Go Go.Lift

end Go.Sh

namespace Go.Sh
open Go Go.Lift

noncomputable def numOf (h : Heap) (s : Sl) : Nat := open Classical in if hx : ∃ k, NN h s k then Classical.choose hx else 0
theorem NN.uniq {h : Heap} {s : Sl} {m n : Nat} (hm : NN h s m) (hn : NN h s n) : m = n := by
  obtain ⟨xs, x1, _, _, x4, _⟩ := hm
  obtain ⟨ys, y1, _, _, y4, _⟩ := hn
  have h1 := x1.cells
  have h2 := y1.cells
  rw [h1] at h2
  simp only [Option.some.injEq] at h2
  have : xs = ys := by
    apply List.ext_getElem
    · have := congrArg List.length h2; simpa using this
    · intro i hi hj
      have := congrArg (fun l => l[i]?) h2
      simp [hi, hj] at this
      exact_mod_cast this
  rw [← x4, ← y4, this]
theorem numOf_eq {h : Heap} {s : Sl} {n : Nat} (hn : NN h s n) : numOf h s = n := by
  unfold numOf
  have hx : ∃ k, NN h s k := ⟨n, hn⟩
  rw [dif_pos hx]
  exact (Classical.choose_spec hx).uniq hn

theorem NN.keepO {h h' : Heap} {s : Sl} {n : Nat} {o : Option Nat} (hn : NN h s n) (k : Keep o h h') (hne : ∀ b, s.blk = some b → o ≠ some b) : NN h' s n := by
  obtain ⟨xs, h1, h2⟩ := hn
  exact ⟨xs, h1.keep k (fun a ha => fun e => hne a.block (by simp [Sl.blk, ha]) e.symm), h2⟩

end Go.Sh

namespace Go.Sh
open Go Go.Lift

theorem Right_spec {x : Sl} {xs : List Nat} {h : Heap} {Q : Bool → Heap → Prop} (hx : RI .u32 h x xs) (hl : xs.length ≤ 1048576) (K : Q (xs.getLast? != some 0) h) : nat_Right x h Q := by
  unfold nat_Right
  refine trim_spec hx hl fun r ys hr hpre hn hv _ => ?_
  have lx := hx.len
  have lr := hr.len
  have : ((r.len : Int) == (x.len : Int)) = (xs.getLast? != some 0) := by
    by_cases hlen : ys.length = xs.length
    · have : ys = xs := by rw [hpre, hlen, List.take_length]
      subst this
      have h1 : ((r.len : Int) == (x.len : Int)) = true := by rw [beq_iff_eq]; omega
      rw [h1]
      unfold Nrm at hn
      simp [hn]
    · have h1 : ((r.len : Int) == (x.len : Int)) = false := by rw [beq_eq_false_iff_ne]; omega
      rw [h1]
      -- were the last one no nought, nothing would be cut off
      by_cases hz : xs.getLast? = some 0
      · simp [hz]
      · exfalso
        have hlt : ys.length < xs.length := by
          have := congrArg List.length hpre; simp at this; omega
        -- value of the rest is nothing, but its last digit isn't
        have h2 := val_take_add (b := 4294967296) xs ys.length
        rw [Nat.min_eq_left (by omega), ← hpre, hv] at h2
        have h3 : 4294967296 ^ ys.length * val 4294967296 (xs.drop ys.length) = 0 := by omega
        have h4 : val 4294967296 (xs.drop ys.length) = 0 := by
          rcases Nat.mul_eq_zero.1 h3 with h | h
          · exact absurd h (Nat.pos_iff_ne_zero.1 (Nat.pow_pos (by decide)))
          · exact h
        have hn2 : Nrm (xs.drop ys.length) := by
          unfold Nrm
          rw [List.getLast?_drop]
          rw [if_neg (by omega)]
          exact hz
        have h5 := val_zero (b := 4294967296) (by decide) hn2 h4
        have := congrArg List.length h5
        simp at this
        omega
  rw [this]; exact K

end Go.Sh

namespace Go.Sh
open Go Go.Lift

/-- The letters of a text, as numbers. -/
def cs (s : ByteArray) : List Nat := s.data.toList.map (·.toNat)
theorem cs_len (s : ByteArray) : (cs s).length = s.size := by unfold cs; rw [List.length_map, Array.length_toList]; rfl
theorem idxStr.at {s : ByteArray} {i : Int} {j : Nat} {k : Int → Prop} (hij : i = (j : Int)) (hj : j < (cs s).length) (K : k ((cs s)[j] : Nat)) : idxStr s i k := by
  subst hij
  refine ⟨by omega, ?_⟩
  have h1 : j < s.data.size := by rw [cs_len] at hj; exact hj
  refine ⟨s.data[j], by simp, ?_⟩
  simp only [cs, List.getElem_map, Array.getElem_toList] at K
  exact K
/-- What decimal letters are worth. -/
def dv (c : List Nat) : Nat := val 10 (c.reverse.map (· - 48))
def digs (c : List Nat) : Bool := c.all fun d => decide (48 ≤ d) && decide (d ≤ 57)
theorem digs_lim {c : List Nat} (h : digs c = true) : Lim 10 (c.reverse.map (· - 48)) := by
  intro z hz
  simp only [List.mem_map, List.mem_reverse] at hz
  obtain ⟨d, hd, rfl⟩ := hz
  have := List.all_eq_true.1 h d hd
  simp only [Bool.and_eq_true, decide_eq_true_eq] at this
  omega
theorem dv_nl {c : List Nat} (h : digs c = true) {k : Nat} (hk : c.length ≤ k) : nl (dv c) ≤ k := by
  rw [nl_le_iff]
  have h1 := val_lt (digs_lim h)
  rw [List.length_map, List.length_reverse] at h1
  have h2 : (10 : Nat) ^ c.length ≤ 10 ^ k := Nat.pow_le_pow_right (by decide) hk
  have h3 : (10 : Nat) ^ k ≤ 4294967296 ^ k := Nat.pow_le_pow_left (by decide) _
  unfold dv
  omega

end Go.Sh

namespace Go.Sh
open Go Go.Lift

end Go.Sh

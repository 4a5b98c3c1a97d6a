/-
  Laws that the proof of this claim's statement leans on, each proved under the conditions that it states.
-/
import Derived.Test.YtjppcjbmepcneaaGreatDoorSpR
set_option linter.unusedVariables false
set_option linter.unusedSimpArgs false
namespace Go.Sh
open Go Go.Lift
def dg (n : Nat) : List Nat := if h : n = 0 then [] else n % 10 :: dg (n / 10)
termination_by n
decreasing_by omega
theorem dg_zero : dg 0 = [] := by rw [dg]; simp
theorem dg_pos {n : Nat} (h : n ≠ 0) : dg n = n % 10 :: dg (n / 10) := by rw [dg]; simp [h]
theorem dg_spec (n : Nat) : Lim 10 (dg n) ∧ Nrm (dg n) ∧ val 10 (dg n) = n := by
  induction n using Nat.strongRecOn with
  | _ n ih =>
    by_cases h : n = 0
    · subst h; rw [dg_zero]; exact ⟨Lim.nil, Nrm.nil, rfl⟩
    · obtain ⟨h1, h2, h3⟩ := ih (n / 10) (by omega)
      rw [dg_pos h]
      refine ⟨?_, ?_, ?_⟩
      · intro z hz
        rcases List.mem_cons.1 hz with rfl | hz
        · omega
        · exact h1 z hz
      · unfold Nrm at h2 ⊢
        cases hd : dg (n / 10) with
        | nil =>
          rw [hd] at h3
          simp [val] at h3
          simp; omega
        | cons a l => rw [hd] at h2; rw [List.getLast?_cons_cons]; exact h2
      · simp only [val, h3]; omega
theorem dg_eq {ds : List Nat} {n : Nat} (h1 : Lim 10 ds) (h2 : Nrm ds) (h3 : val 10 ds = n) : ds = dg n := by
  obtain ⟨k1, k2, k3⟩ := dg_spec n
  exact val_inj (b := 10) (by decide) h1 k1 h2 k2 (by rw [h3, k3])
def tN (n : Nat) : ByteArray := bytesOf (strDig (dg n))
theorem bytesOf_size (l : List Int) : (bytesOf l).size = l.length := by
  have : ∀ (l : List Int) (b : ByteArray), (l.foldl (fun r n => r.push (UInt8.ofNat n.toNat)) b).size = b.size + l.length := by
    intro l
    induction l with
    | nil => intro b; simp
    | cons x l ih => intro b; simp only [List.foldl_cons, ih, List.length_cons, ByteArray.size_push]; omega
  unfold bytesOf
  rw [this]; simp
theorem tN_size {n k : Nat} (h : nl n ≤ k) : (tN n).size ≤ 10 * k + 1 := by
  unfold tN
  rw [bytesOf_size]
  obtain ⟨h1, h2, h3⟩ := dg_spec n
  have : (dg n).length ≤ 10 * k := len_le_of_val (b := 10) (by decide) h2 (by rw [h3]; exact pow_bound h)
  unfold strDig
  split
  · simp
  · simp; omega
theorem TextN_spec {x : Sl} {n : Nat} {h : Heap} {Q : ByteArray → Heap → Prop} (hx : NN h x n) (hn : nl n ≤ 30000) (K : ∀ h', Ext h h' → Q (tN n) h') : nat_Text x h Q :=
  Text_spec hx.nv (by rw [hx.nl]; exact hn) fun h' ds h1 h2 h3 e => by
    have := dg_eq h1 h2 h3
    subst this
    exact K h' e
def tQ (q : Rat) : ByteArray := (if q.num < 0 then ByteArray.mk #[45] ++ tN q.num.natAbs else tN q.num.natAbs) ++ (if q.den = 1 then ByteArray.empty else ByteArray.mk #[47] ++ tN q.den)
theorem append_empty (a : ByteArray) : a ++ ByteArray.empty = a := by simp
section
variable {h : Heap} {x : Bool × Sl × Sl} {q : Rat} {Q : ByteArray → Heap → Prop}
theorem dn_pos (hx : RQ h x q) : (((x.2.2.len : Nat) : Int) > 0) ↔ q.den ≠ 1 := by
  have := hx.den.len_zero
  unfold dn at this
  constructor
  · intro h1 h2; rw [if_pos h2] at this; have := this.2 rfl; omega
  · intro h1; rw [if_neg h1] at this
    have : x.2.2.len ≠ 0 := fun h => q.den_nz (this.1 h)
    omega
theorem TextQ_spec (hx : RQ h x q) (hs : szQ q ≤ 20000) (K : ∀ h', Ext h h' → Q (tQ q) h') : ratio_Text x h Q := by
  have n1 := nl_num_le q; have n3 := nl_den_le q
  have t1 := tN_size n1; have t2 := tN_size n3
  refine mem_ext fun h1 e1 => TextN_spec (hx.num.ext e1) (by omega) fun h2 e2 => ?_
  have e12 := e1.trans e2
  refine seq.cut (fun t h3 => t = (if q.num < 0 then ByteArray.mk #[45] ++ tN q.num.natAbs else tN q.num.natAbs) ∧ h3 = h2) ?_ ?_
  · rw [hx.neg]
    refine ⟨fun hn => ?_, fun hn => ?_⟩
    · simp only [decide_eq_true_eq] at hn
      refine ⟨?_, ?_⟩
      · have : (ByteArray.mk #[45]).size = 1 := rfl
        omega
      · rintro _ rfl; exact ⟨by rw [if_pos hn], rfl⟩
    · simp only [decide_eq_false_iff_not] at hn
      exact ⟨by rw [if_neg hn], rfl⟩
  · rintro t h3 ⟨rfl, rfl⟩
    refine seq.cut (fun t h4 => t = tQ q ∧ Ext h3 h4) ?_ ?_
    · have hsz : (if q.num < 0 then ByteArray.mk #[45] ++ tN q.num.natAbs else tN q.num.natAbs).size ≤ 10 * szQ q + 2 := by
        split
        · rw [ByteArray.size_append]; have : (ByteArray.mk #[45]).size = 1 := rfl; omega
        · omega
      refine ⟨fun hn => ?_, fun hn => ?_⟩
      · simp only [decide_eq_true_eq] at hn
        have hd := (dn_pos hx).1 hn
        have hden : dn q = q.den := by unfold dn; rw [if_neg hd]
        have D := hx.den.ext e12
        rw [hden] at D
        refine TextN_spec D (by omega) fun h4 e4 => ?_
        have s1 : (ByteArray.mk #[47]).size = 1 := rfl
        refine ⟨by omega, ?_, ?_⟩
        · rw [ByteArray.size_append (a := ByteArray.mk #[47])]; omega
        · rintro _ rfl
          refine ⟨?_, e4⟩
          unfold tQ; rw [if_neg hd]
      · simp only [decide_eq_false_iff_not] at hn
        have hd : q.den = 1 := Classical.byContradiction fun h => hn ((dn_pos hx).2 h)
        refine ⟨?_, Keep.refl _ _⟩
        unfold tQ; rw [if_pos hd, append_empty]
    · rintro t h4 ⟨rfl, e4⟩
      exact K h4 (e12.trans e4)
end
end Go.Sh

namespace Go.Sh
open Go Go.Lift
def isDec (c : List Nat) (n k : Nat) : Prop :=
  (digs c = true ∧ c ≠ [] ∧ n = dv c ∧ k = 0) ∨
  ∃ p, 0 < p ∧ p + 1 < c.length ∧ c[p]? = some 46 ∧ digs (c.take p) = true ∧ digs (c.drop (p + 1)) = true ∧ n = dv (c.take p ++ c.drop (p + 1)) ∧ k = c.length - (p + 1)
section
variable {a : Addr} {lim : Nat} {ov : Bool} {s : ByteArray} {h : Heap}
end
end Go.Sh

namespace Go.Sh
open Go Go.Lift
structure Seen (c : List Nat) (j : Nat) (pt : Int) (ds : List Nat) : Prop where
  le : j ≤ c.length
  cases : (pt = -1 ∧ digs (c.drop j) = true ∧ ds = (c.drop j).reverse.map (· - 48)) ∨
    ∃ p : Nat, pt = (p : Int) ∧ j ≤ p ∧ 0 < p ∧ p + 1 < c.length ∧ c[p]? = some 46 ∧ digs ((c.take p).drop j) = true ∧ digs (c.drop (p + 1)) = true ∧ ds = ((c.take p).drop j ++ c.drop (p + 1)).reverse.map (· - 48)
end Go.Sh

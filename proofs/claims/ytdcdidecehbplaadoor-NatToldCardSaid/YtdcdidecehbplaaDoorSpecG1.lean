/- Laws that the proof of this claim's statement leans on, each proved under the conditions that it states. -/
import Derived.Test.YtdcdidecehbplaaDoorSpec10
set_option linter.unusedVariables false
set_option linter.unusedSimpArgs false
namespace Go.Sh
open Go Go.Lift

/-! ### The noughts at a number's least end -/
def tab32 : List Nat := [0, 1, 28, 2, 29, 14, 24, 3, 30, 22, 20, 15, 25, 17, 4, 8, 31, 27, 13, 23, 21, 19, 16, 7, 26, 12, 18, 6, 11, 5, 10, 9]
/-- The table that the library lays out. -/
abbrev Tab (h : Heap) : Prop := RI .u8 h ⟨some ⟨g_math_bits_deBruijn32tab, 0, none⟩, 32, 32⟩ tab32

theorem odd_part : ∀ {x : Nat}, 0 < x → ∃ k m, x = 2 ^ k * (2 * m + 1) := by
  intro x
  induction x using Nat.strongRecOn with
  | _ x ih =>
    intro hx
    by_cases hodd : x % 2 = 1
    · exact ⟨0, x / 2, by simp; omega⟩
    · obtain ⟨k, m, h⟩ := ih (x / 2) (by omega) (by omega)
      refine ⟨k + 1, m, ?_⟩
      rw [Nat.pow_succ, Nat.mul_assoc, Nat.mul_left_comm, ← h]
      omega

theorem low_bit {x k m : Nat} (hx : x < 4294967296) (h : x = 2 ^ k * (2 * m + 1)) : x &&& (4294967296 - x) = 2 ^ k ∧ k < 32 := by
  have hpos : 0 < 2 ^ k := Nat.pow_pos (by decide)
  have hx0 : 0 < x := by rw [h]; exact Nat.mul_pos hpos (by omega)
  have hk : k < 32 := by
    have h1 : 2 ^ k ≤ x := by rw [h]; exact Nat.le_mul_of_pos_right _ (by omega)
    have h2 : (2 : Nat) ^ k < 2 ^ 32 := by omega
    exact (Nat.pow_lt_pow_iff_right (by decide)).1 h2
  refine ⟨?_, hk⟩
  have e1 : x - 1 = 2 ^ k * (2 * m) + (2 ^ k - 1) := by
    rw [h, Nat.mul_add, Nat.mul_one]; omega
  have e2 : (4294967296 : Nat) - x = 2 ^ 32 - ((x - 1) + 1) := by omega
  apply Nat.eq_of_testBit_eq
  intro i
  rw [Nat.testBit_and, e2, Nat.testBit_two_pow_sub_succ (by omega), e1, h]
  rw [Nat.testBit_two_pow_mul_add _ (by omega)]
  have e3 : 2 ^ k * (2 * m + 1) = 2 ^ k * (2 * m + 1) + 0 := rfl
  rw [e3, Nat.testBit_two_pow_mul_add _ hpos, Nat.testBit_two_pow]
  by_cases h1 : i < k
  · rw [if_pos h1]
    simp
    omega
  · rw [if_neg h1, if_neg h1]
    by_cases h2 : i = k
    · subst h2
      simp [hk]
    · obtain ⟨j, hj⟩ : ∃ j, i - k = j + 1 := ⟨i - k - 1, by omega⟩
      rw [hj, Nat.testBit_succ, Nat.testBit_succ]
      have e4 : (2 * m + 1) / 2 = m := by omega
      have e5 : (2 * m) / 2 = m := by omega
      rw [e4, e5]
      have : decide (k = i) = false := by simp; omega
      rw [this]
      cases m.testBit j <;> simp

theorem and32 {p q : Nat} (hp : p < 4294967296) (hq : q < 4294967296) : ((BitVec.ofInt (IntKind.bits .u32) (p : Int) &&& BitVec.ofInt (IntKind.bits .u32) (q : Int)).toNat : Int) = ((p &&& q : Nat) : Int) := by
  show ((BitVec.ofInt 32 (p : Int) &&& BitVec.ofInt 32 (q : Int)).toNat : Int) = _
  rw [BitVec.toNat_and, BitVec.toNat_ofInt, BitVec.toNat_ofInt]
  congr 2 <;> omega

theorem tab_tells : ∀ k, k < 32 → (2 ^ k * 125613361 % 4294967296) / 134217728 < 32 ∧ tab32[(2 ^ k * 125613361 % 4294967296) / 134217728]? = some k := by decide

theorem tz_spec {x : Nat} {h : Heap} {Q : Int → Heap → Prop} (ht : Tab h) (h0 : 0 < x) (hx : x < 4294967296) (K : ∀ k m : Nat, k < 32 → x = 2 ^ k * (2 * m + 1) → Q (k : Int) h) : math_bits_TrailingZeros32 (x : Int) h Q := by
  obtain ⟨k, m, hkm⟩ := odd_part h0
  obtain ⟨hlow, hk⟩ := low_bit hx hkm
  obtain ⟨hlt, htab⟩ := tab_tells k hk
  unfold math_bits_TrailingZeros32
  refine ⟨fun hz => ?_, fun _ => ?_⟩
  · simp only [beq_iff_eq] at hz; omega
  have e1 : IntKind.wrap .u32 (0 - (x : Int)) = ((4294967296 - x : Nat) : Int) := by rw [wu32m]; omega
  have hpk : 2 ^ k < 4294967296 := Nat.lt_of_le_of_lt (show 2 ^ k ≤ x by rw [hkm]; exact Nat.le_mul_of_pos_right _ (by omega)) hx
  have e2 : Int.fdiv (IntKind.wrap .u32 ((IntKind.wrap .u32 (((BitVec.ofInt (IntKind.bits .u32) (x : Int) &&& BitVec.ofInt (IntKind.bits .u32) (IntKind.wrap .u32 (0 - (x : Int)))).toNat : Int))) * 125613361)) (2 ^ (min (Int.toNat 27) (IntKind.bits .u32))) = (((2 ^ k * 125613361 % 4294967296) / 134217728 : Nat) : Int) := by
    rw [e1, and32 hx (by omega), hlow]
    generalize hp : 2 ^ k = p at *
    rw [wu32 (n := (p : Int)) (by omega) (by omega), wu32m]
    show Int.fdiv _ 134217728 = _
    rw [Int.fdiv_eq_ediv_of_nonneg _ (by omega)]
    have e3 : (p : Int) * 125613361 = ((p * 125613361 : Nat) : Int) := by simp
    rw [e3]
    generalize p * 125613361 = u
    clear hlow e3 e1 hkm
    omega
  rw [e2]
  generalize (2 ^ k * 125613361 % 4294967296) / 134217728 = j at *
  refine ⟨⟨by omega, by omega⟩, ?_⟩
  obtain ⟨hj, hv⟩ := List.getElem?_eq_some_iff.1 htab
  obtain ⟨a, ha, hc⟩ := ht.get hj
  simp only [Option.some.injEq] at ha
  subst ha
  refine ⟨(k : Int), ?_, ?_⟩
  · rw [Int.toNat_natCast, Nat.mul_one, hc, hv]
  · show Q (IntKind.wrap .i64 (k : Int)) h
    rw [w64 (by omega) (by omega)]
    exact K k m hk hkm
end Go.Sh

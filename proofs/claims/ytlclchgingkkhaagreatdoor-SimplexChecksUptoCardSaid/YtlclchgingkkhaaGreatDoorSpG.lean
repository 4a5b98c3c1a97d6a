/-
  Laws that the proof of this claim's statement leans on, each proved under the conditions that it states.
-/
import Derived.Test.YtlclchgingkkhaaGreatDoorSpA
set_option linter.unusedVariables false
set_option linter.unusedSimpArgs false
namespace Go.Sh
open Go Go.Lift
def abf : List Nat := [0, 1, 28, 2, 29, 14, 24, 3, 30, 22, 20, 15, 25, 17, 4, 8, 31, 27, 13, 23, 21, 19, 16, 7, 26, 12, 18, 6, 11, 5, 10, 9]
abbrev Tab (h : Heap) : Prop := RI .u8 h ⟨some ⟨am, 0, none⟩, 32, 32⟩ abf
theorem abc : ∀ {x : Nat}, 0 < x → ∃ k m, x = 2 ^ k * (2 * m + 1) := by
  intro x
  induction x using Nat.strongRecOn with
  | _ x ih =>
    intro hx
    by_cases hodd : x % 2 = 1
    · exact ⟨0, x / 2, by simp; omega⟩
    · obtain ⟨k, m, h⟩ := ih (x / 2) (by omega) (by omega)
      refine ⟨k + 1, m, ?_⟩
      rw [Nat.pow_succ, Nat.mul_assoc, Nat.mul_left_comm, ← h]
      omega
theorem acw {x k m : Nat} (hx : x < 4294967296) (h : x = 2 ^ k * (2 * m + 1)) : x &&& (4294967296 - x) = 2 ^ k ∧ k < 32 := by
  have hpos : 0 < 2 ^ k := Nat.pow_pos (by decide)
  have hx0 : 0 < x := by rw [h]; exact Nat.mul_pos hpos (by omega)
  have hk : k < 32 := by
    have h1 : 2 ^ k ≤ x := by rw [h]; exact Nat.le_mul_of_pos_right _ (by omega)
    have h2 : (2 : Nat) ^ k < 2 ^ 32 := by omega
    exact (Nat.pow_lt_pow_iff_right (by decide)).1 h2
  refine ⟨?_, hk⟩
  have e1 : x - 1 = 2 ^ k * (2 * m) + (2 ^ k - 1) := by
    rw [h, Nat.mul_add, Nat.mul_one]; omega
  have e2 : (4294967296 : Nat) - x = 2 ^ 32 - ((x - 1) + 1) := by omega
  apply Nat.eq_of_testBit_eq
  intro i
  rw [Nat.testBit_and, e2, Nat.testBit_two_pow_sub_succ (by omega), e1, h]
  rw [Nat.testBit_two_pow_mul_add _ (by omega)]
  have e3 : 2 ^ k * (2 * m + 1) = 2 ^ k * (2 * m + 1) + 0 := rfl
  rw [e3, Nat.testBit_two_pow_mul_add _ hpos, Nat.testBit_two_pow]
  by_cases h1 : i < k
  · rw [if_pos h1]
    simp
    omega
  · rw [if_neg h1, if_neg h1]
    by_cases h2 : i = k
    · subst h2
      simp [hk]
    · obtain ⟨j, hj⟩ : ∃ j, i - k = j + 1 := ⟨i - k - 1, by omega⟩
      rw [hj, Nat.testBit_succ, Nat.testBit_succ]
      have e4 : (2 * m + 1) / 2 = m := by omega
      have e5 : (2 * m) / 2 = m := by omega
      rw [e4, e5]
      have : decide (k = i) = false := by simp; omega
      rw [this]
      cases m.testBit j <;> simp
theorem adE {p q : Nat} (hp : p < 4294967296) (hq : q < 4294967296) : ((BitVec.ofInt (IntKind.bits .u32) (p : Int) &&& BitVec.ofInt (IntKind.bits .u32) (q : Int)).toNat : Int) = ((p &&& q : Nat) : Int) := by
  show ((BitVec.ofInt 32 (p : Int) &&& BitVec.ofInt 32 (q : Int)).toNat : Int) = _
  rw [BitVec.toNat_and, BitVec.toNat_ofInt, BitVec.toNat_ofInt]
  congr 2 <;> omega
theorem zW : ∀ k, k < 32 → (2 ^ k * 125613361 % 4294967296) / 134217728 < 32 ∧ abf[(2 ^ k * 125613361 % 4294967296) / 134217728]? = some k := by decide
theorem aci {x : Nat} {h : Heap} {Q : Int → Heap → Prop} (ht : Tab h) (h0 : 0 < x) (hx : x < 4294967296) (K : ∀ k m : Nat, k < 32 → x = 2 ^ k * (2 * m + 1) → Q (k : Int) h) : aQ (x : Int) h Q := by
  obtain ⟨k, m, hkm⟩ := abc h0
  obtain ⟨hlow, hk⟩ := acw hx hkm
  obtain ⟨hlt, htab⟩ := zW k hk
  unfold aQ
  refine ⟨fun hz => ?_, fun _ => ?_⟩
  · simp only [beq_iff_eq] at hz; omega
  have e1 : IntKind.wrap .u32 (0 - (x : Int)) = ((4294967296 - x : Nat) : Int) := by rw [lL]; omega
  have hpk : 2 ^ k < 4294967296 := Nat.lt_of_le_of_lt (show 2 ^ k ≤ x by rw [hkm]; exact Nat.le_mul_of_pos_right _ (by omega)) hx
  have e2 : Int.fdiv (IntKind.wrap .u32 ((IntKind.wrap .u32 (((BitVec.ofInt (IntKind.bits .u32) (x : Int) &&& BitVec.ofInt (IntKind.bits .u32) (IntKind.wrap .u32 (0 - (x : Int)))).toNat : Int))) * 125613361)) (2 ^ (min (Int.toNat 27) (IntKind.bits .u32))) = (((2 ^ k * 125613361 % 4294967296) / 134217728 : Nat) : Int) := by
    rw [e1, adE hx (by omega), hlow]
    generalize hp : 2 ^ k = p at *
    rw [wu32 (n := (p : Int)) (by omega) (by omega), lL]
    show Int.fdiv _ 134217728 = _
    rw [Int.fdiv_eq_ediv_of_nonneg _ (by omega)]
    have e3 : (p : Int) * 125613361 = ((p * 125613361 : Nat) : Int) := by simp
    rw [e3]
    generalize p * 125613361 = u
    clear hlow e3 e1 hkm
    omega
  rw [e2]
  generalize (2 ^ k * 125613361 % 4294967296) / 134217728 = j at *
  refine ⟨⟨by omega, by omega⟩, ?_⟩
  obtain ⟨hj, hv⟩ := List.getElem?_eq_some_iff.1 htab
  obtain ⟨a, ha, hc⟩ := ht.get hj
  simp only [Option.some.injEq] at ha
  subst ha
  refine ⟨(k : Int), ?_, ?_⟩
  · rw [Int.toNat_natCast, Nat.mul_one, hc, hv]
  · show Q (IntKind.wrap .i64 (k : Int)) h
    rw [w64 (by omega) (by omega)]
    exact K k m hk hkm
end Go.Sh

namespace Go.Lift
open Go
theorem R.drop {α : Type} {toV : α → Value} {h : Heap} {s : Sl} {xs : List α} (hr : R toV h s xs) {i : Int} {j : Nat} {k : Sl → Prop} (hij : i = (j : Int)) (hj : j ≤ xs.length) (K : ∀ s', R toV h s' (xs.drop j) → s'.blk = s.blk → k s') : sliceOf s (some i) none none 1 k := by
  subst hij
  have hl := hr.len
  have hcap := hr.cap
  refine ⟨⟨by simp, by simp⟩, ⟨by simp, .inl rfl⟩, ⟨by simp, by simp; omega⟩, ?_⟩
  simp only [Option.getD_none, Option.getD_some, Int.toNat_natCast, Nat.mul_one]
  by_cases hcj : (s.cap : Int) = (j : Int)
  · rw [if_pos hcj]
    have hx : xs.drop j = [] := List.drop_eq_nil_of_le (by omega)
    refine K _ ?_ rfl
    rw [hx]
    exact R.nil_of (by dsimp only; omega) |> fun r => ⟨r.len, by dsimp only; omega, r.cells⟩
  · rw [if_neg hcj]
    cases ha : s.a with
    | none =>
      have hx : xs = [] := by
        have := hr.cells; rw [ha] at this
        simp only [cellsO?, Option.some.injEq] at this
        cases xs with
        | nil => rfl
        | cons x xs => simp at this
      subst hx
      refine K _ ?_ (by simp [Sl.blk, ha])
      have hj0 : j = 0 := by simpa using hj
      subst hj0
      simp only [List.length_nil] at hl
      exact ⟨by simpa using hl, by dsimp only; omega, by simp [cellsO?]⟩
    | some a =>
      refine K _ (R.mk' (by simp; omega) (by dsimp only; omega) (a.add j) rfl (fun i hi => ?_)) (by simp [Sl.blk, ha, af])
      simp only [List.length_drop] at hi
      obtain ⟨a', ha', hc⟩ := hr.get (i := j + i) (by omega)
      rw [ha] at ha'; cases ha'
      rw [aS, hc, List.getElem_drop]
end Go.Lift
namespace Go.Sh
open Go Go.Lift
theorem acK {y V s : Nat} (hs : s < 32) : (y + 4294967296 * V) / 2 ^ s = y / 2 ^ s + 2 ^ (32 - s) * (V % 2 ^ s) + 4294967296 * (V / 2 ^ s) := by
  have hp : 0 < 2 ^ s := Nat.pow_pos (by decide)
  have e : (4294967296 : Nat) = 2 ^ s * 2 ^ (32 - s) := by
    rw [← Nat.pow_add, show s + (32 - s) = 32 from by omega]
  conv => lhs; rw [e, Nat.mul_assoc, Nat.add_mul_div_left _ _ hp]
  have h1 : 2 ^ (32 - s) * V = 2 ^ (32 - s) * (V % 2 ^ s) + 4294967296 * (V / 2 ^ s) := by
    conv => lhs; rw [← Nat.mod_add_div V (2 ^ s), Nat.mul_add]
    congr 1
    rw [← Nat.mul_assoc, Nat.mul_comm (2 ^ (32 - s)), ← e]
  rw [h1]; omega
theorem aa3 {v : Sl} {ys : List Nat} {B s : Nat} {h : Heap} {K0 : Unit → Heap → Prop} (ho : OwnI .u32 B h v ys) (hl : Lim 4294967296 ys) (hlen : ys.length ≤ 2200000) (hs0 : 0 < s) (hs : s < 32)
    (K : ∀ h' zs, OwnI .u32 B h' v zs → Lim 4294967296 zs → val 4294967296 zs = val 4294967296 ys / 2 ^ s → zs.length = ys.length → Keep v.blk h h' → K0 () h') :
    loop (fun (s0u2 : Int) h0u4 (K0u2 : Int → Heap → Prop) =>
       iteB (decide (s0u2 < ((v.len : Nat) : Int))) (
        seq (fun (K0u3 : Unit → Heap → Prop) =>
         idxS v s0u2 1 fun a_2 =>
         Lift.load (Value.int .u32) a_2 h0u4 fun v_5 =>
         (0 ≤ (s : Int)) ∧
         idxS v s0u2 1 fun a_3 =>
         Lift.ady a_3 (Value.int .u32 (Int.fdiv v_5 (2 ^ (min (Int.toNat (s : Int)) (IntKind.bits .u32))))) h0u4 fun h0u6 =>
         iteB (decide ((IntKind.wrap .i64 (s0u2 + 1)) < ((v.len : Nat) : Int))) (
          idxS v s0u2 1 fun a_4 =>
          Lift.load (Value.int .u32) a_4 h0u6 fun v_6 =>
          idxS v (IntKind.wrap .i64 (s0u2 + 1)) 1 fun a_5 =>
          Lift.load (Value.int .u32) a_5 h0u6 fun v_7 =>
          (0 ≤ (IntKind.wrap .i64 (32 - (s : Int)))) ∧
          idxS v s0u2 1 fun a_6 =>
          Lift.ady a_6 (Value.int .u32 (IntKind.wrap .u32 (((BitVec.ofInt (IntKind.bits .u32) v_6 ||| BitVec.ofInt (IntKind.bits .u32) (IntKind.wrap .u32 (v_7 * 2 ^ (min (Int.toNat (IntKind.wrap .i64 (32 - (s : Int)))) (IntKind.bits .u32))))).toNat : Int)))) h0u6 fun h0u7 =>
          K0u3 () h0u7
         ) (
          K0u3 () h0u6
         )
        ) (fun t0u1 h0u5 =>
         K0u2 (IntKind.wrap .i64 (s0u2 + 1)) h0u5
        )
       ) (
        K0 () h0u4
       )
      ) 0 h := by
  have lv := ho.r.len
  have hp : 0 < 2 ^ s := Nat.pow_pos (by decide)
  refine loop.inv (fun t h' => ∃ (i : Nat) (zs : List Nat), t = (i : Int) ∧ i ≤ ys.length ∧ OwnI .u32 B h' v zs ∧ Lim 4294967296 zs ∧ zs.length = ys.length ∧ zs.drop i = ys.drop i ∧
      val 4294967296 (zs.take i) + 4294967296 ^ i * (val 4294967296 (ys.drop i) / 2 ^ s) = val 4294967296 ys / 2 ^ s ∧ Keep v.blk h h') (fun t _ => ys.length - t.toNat)
    ⟨0, ys, rfl, by omega, ho, hl, rfl, rfl, by simp [val], Keep.refl _ _⟩ ?_
  rintro t h1 ⟨i, zs, rfl, hi, hoz, hlz, hzl, hdr, hval, hk⟩
  refine ⟨fun hlt => ?_, fun hge => ?_⟩
  · simp only [decide_eq_true_eq] at hlt
    have hiy : i < ys.length := by omega
    have hiz : i < zs.length := by omega
    have hd1 := bw (b := 4294967296) ys i hiy
    have hyi := hl.get hiy
    have hzy : zs[i] = ys[i] := by
      have h1 := List.drop_eq_getElem_cons hiz
      have h2 := List.drop_eq_getElem_cons hiy
      rw [hdr, h2] at h1
      simp only [List.cons.injEq] at h1
      exact h1.1.symm
    have hdr1 : zs.drop (i + 1) = ys.drop (i + 1) := by
      have h1 := List.drop_eq_getElem_cons hiz
      have h2 := List.drop_eq_getElem_cons hiy
      rw [hdr, h2] at h1
      simp only [List.cons.injEq] at h1
      exact h1.2.symm
    -- the new one
    have fin : ∀ h2 (z : Nat), z < 4294967296 → z = ys[i] / 2 ^ s + 2 ^ (32 - s) * (val 4294967296 (ys.drop (i + 1)) % 2 ^ s) → OwnI .u32 B h2 v (zs.set i z) → Keep v.blk h h2 →
        (fun t h' => (∃ (i : Nat) (zs : List Nat), t = (i : Int) ∧ i ≤ ys.length ∧ OwnI .u32 B h' v zs ∧ Lim 4294967296 zs ∧ zs.length = ys.length ∧ zs.drop i = ys.drop i ∧
      val 4294967296 (zs.take i) + 4294967296 ^ i * (val 4294967296 (ys.drop i) / 2 ^ s) = val 4294967296 ys / 2 ^ s ∧ Keep v.blk h h') ∧ ys.length - t.toNat < ys.length - (i : Int).toNat) (IntKind.wrap .i64 ((i : Int) + 1)) h2 := by
      intro h2 z hz hze ho2 hk2
      rw [w64 (by omega) (by omega)]
      refine ⟨⟨i + 1, _, by omega, by omega, ho2, hlz.set _ hz, by simpa using hzl, ?_, ?_, hk2⟩, by omega⟩
      · rw [List.drop_set_of_lt (by omega), hdr1]
      · have hlt3 : i < (zs.set i z).length := by simpa using hiz
        rw [aE _ i hlt3, List.take_set_of_le (Nat.le_refl _), List.getElem_set_self, Nat.pow_succ, ← hval, hd1, acK hs, ← hze, Nat.mul_assoc, Nat.mul_add]
        omega
    refine seq.dup ?_
    refine RI.ld hoz.r (j := i) rfl hiz ⟨by omega, ?_⟩
    rw [hzy]
    have e1 : Int.fdiv ((ys[i] : Nat) : Int) (2 ^ (min (Int.toNat (s : Int)) (IntKind.bits .u32))) = ((ys[i] / 2 ^ s : Nat) : Int) := by
      have : min (Int.toNat (s : Int)) (IntKind.bits .u32) = s := by
        rw [Int.toNat_natCast]; exact Nat.min_eq_left (by show s ≤ 32; omega)
      rw [this, Int.fdiv_eq_ediv_of_nonneg _ (by exact_mod_cast Nat.zero_le (2 ^ s))]
      simp
    rw [e1]
    refine Own.st hoz (j := i) (m := ys[i] / 2 ^ s) rfl hiz rfl fun h2 ho2 hk2 _ => ?_
    rw [w64 (n := (i : Int) + 1) (by omega) (by omega)]
    have hdiv : ys[i] / 2 ^ s < 2 ^ (32 - s) := by
      rw [Nat.div_lt_iff_lt_mul hp, ← Nat.pow_add, show 32 - s + s = 32 from by omega]; omega
    have h31 : (2 : Nat) ^ (32 - s) ≤ 2147483648 := by
      have : (2 : Nat) ^ (32 - s) ≤ 2 ^ 31 := Nat.pow_le_pow_right (by decide) (by omega)
      omega
    refine ⟨fun hlt2 => ?_, fun hge2 => ?_⟩
    · simp only [decide_eq_true_eq] at hlt2
      have hi1 : i + 1 < ys.length := by omega
      have hlen2 : (zs.set i (ys[i] / 2 ^ s)).length = ys.length := by simpa using hzl
      refine RI.ld ho2.r (j := i) rfl (by omega) (RI.ld ho2.r (j := i + 1) (by omega) (by omega) ?_)
      have hz1 : (zs.set i (ys[i] / 2 ^ s))[i + 1]'(by omega) = ys[i + 1] := by
        rw [List.getElem_set_ne (by omega)]
        have h1 : i + 1 < zs.length := by omega
        have := List.drop_eq_getElem_cons h1
        have h2 := List.drop_eq_getElem_cons hi1
        rw [hdr1, h2] at this
        simp only [List.cons.injEq] at this
        exact this.1.symm
      rw [hz1, List.getElem_set_self]
      have hd2 := bw (b := 4294967296) ys (i + 1) hi1
      have hy1 := hl.get hi1
      generalize ys[i + 1] = y1 at *
      rw [w64 (n := 32 - (s : Int)) (by omega) (by omega)]
      refine ⟨by omega, ?_⟩
      have e2 : IntKind.wrap .u32 ((y1 : Int) * 2 ^ (min (Int.toNat (32 - (s : Int))) (IntKind.bits .u32))) = ((2 ^ (32 - s) * (y1 % 2 ^ s) : Nat) : Int) := by
        have : min (Int.toNat (32 - (s : Int))) (IntKind.bits .u32) = 32 - s := by
          have : Int.toNat (32 - (s : Int)) = 32 - s := by omega
          rw [this]; exact Nat.min_eq_left (by show 32 - s ≤ 32; omega)
        rw [this, lL]
        have e3 : ((y1 : Int) * 2 ^ (32 - s)) = ((y1 * 2 ^ (32 - s) : Nat) : Int) := by simp
        have e4 : (4294967296 : Int) = ((2 ^ s * 2 ^ (32 - s) : Nat) : Int) := by
          rw [← Nat.pow_add, show s + (32 - s) = 32 from by omega]; rfl
        rw [e3, e4, ← Int.natCast_emod, Nat.mul_mod_mul_right, Nat.mul_comm]
      have hm2 : 2 ^ (32 - s) * (y1 % 2 ^ s) ≤ 2 ^ (32 - s) * (2 ^ s - 1) := Nat.mul_le_mul_left _ (by have := Nat.mod_lt y1 hp; omega)
      have hm3 : 2 ^ (32 - s) * (2 ^ s - 1) + 2 ^ (32 - s) = 4294967296 := by
        have e7 : 2 ^ s - 1 + 1 = 2 ^ s := by omega
        have e8 : 2 ^ (32 - s) * (2 ^ s - 1) + 2 ^ (32 - s) = 2 ^ (32 - s) * (2 ^ s - 1 + 1) := by rw [Nat.mul_add, Nat.mul_one]
        rw [e8, e7, ← Nat.pow_add, show 32 - s + s = 32 from by omega]
      have e5 : (ys[i] / 2 ^ s) ||| (2 ^ (32 - s) * (y1 % 2 ^ s)) = ys[i] / 2 ^ s + 2 ^ (32 - s) * (y1 % 2 ^ s) := by
        rw [Nat.or_comm, Nat.mul_comm (2 ^ (32 - s)), wW hdiv]; omega
      have e6 : val 4294967296 (ys.drop (i + 1)) % 2 ^ s = y1 % 2 ^ s := by
        rw [hd2]
        have e4 : (4294967296 : Nat) = 2 ^ s * 2 ^ (32 - s) := by
          rw [← Nat.pow_add, show s + (32 - s) = 32 from by omega]
        rw [e4, Nat.mul_assoc, Nat.add_mul_mod_self_left]
      have hm4 : 2 ^ (32 - s) * (y1 % 2 ^ s) + 2 ^ (32 - s) ≤ 4294967296 := by rw [← hm3]; exact Nat.add_le_add_right hm2 _
      have b1 : 2 ^ (32 - s) * (y1 % 2 ^ s) < 4294967296 := Nat.lt_of_lt_of_le (Nat.lt_add_of_pos_right (Nat.pow_pos (by decide))) hm4
      have b2 : ys[i] / 2 ^ s + 2 ^ (32 - s) * (y1 % 2 ^ s) < 4294967296 := Nat.lt_of_lt_of_le (Nat.add_lt_add_right hdiv _) (by rw [Nat.add_comm]; exact hm4)
      have b3 : ys[i] / 2 ^ s < 4294967296 := Nat.lt_of_le_of_lt (Nat.le_add_right _ _) b2
      rw [e2, or32 b3 b1, e5, wu32 (Int.natCast_nonneg _) (Int.ofNat_lt.2 b2)]
      refine Own.st ho2 (j := i) (m := ys[i] / 2 ^ s + 2 ^ (32 - s) * (y1 % 2 ^ s)) rfl (by omega) rfl fun h3 ho3 hk3 _ => ?_
      rw [List.set_set] at ho3
      have := fin h3 _ b2 (by rw [e6]) ho3 ((hk.trans hk2).trans hk3)
      rwa [w64 (n := (i : Int) + 1) (by omega) (by omega)] at this
    · simp only [decide_eq_false_iff_not] at hge2
      have hi1 : i + 1 = ys.length := by omega
      have : ys.drop (i + 1) = [] := List.drop_eq_nil_of_le (by omega)
      have := fin h2 (ys[i] / 2 ^ s) (by omega) (by rw [this, ru]; simp) ho2 (hk.trans hk2)
      rwa [w64 (n := (i : Int) + 1) (by omega) (by omega)] at this
  · simp only [decide_eq_false_iff_not] at hge
    have hi2 : i = ys.length := by omega
    subst hi2
    rw [List.drop_length, ru, Nat.zero_div, Nat.mul_zero, Nat.add_zero, ← hzl, List.take_length] at hval
    exact K h1 zs hoz hlz hval hzl hk
end Go.Sh

namespace Go.Sh
open Go Go.Lift
theorem jW {x : Sl} {n : Nat} {h : Heap} {Q : (Sl × Int) → Heap → Prop} (ht : Tab h) (hx : NN h x n) (hn : n ≠ 0) (hxl : x.len ≤ 2200000)
    (K : ∀ r (k m : Nat) h', n = 2 ^ k * (2 * m + 1) → NN h' r (2 * m + 1) → Ext h h' → r.len ≤ x.len → k < 32 * x.len → Q (r, (k : Int)) h') : eB x h Q := by
  obtain ⟨xs, x1, x2, x3, x4, x5⟩ := hx
  have lx := x1.len
  unfold eB
  have hne : xs ≠ [] := fun h => by subst h; exact hn x4.symm
  have hlpos : 0 < xs.length := List.length_pos_iff.2 hne
  refine loop.inv (fun t h' => h' = h ∧ ∃ j : Nat, t = ((32 * j : Nat) : Int) ∧ j < xs.length ∧ val 4294967296 (xs.take j) = 0) (fun t _ => 32 * xs.length - t.toNat) ⟨rfl, 0, rfl, hlpos, rfl⟩ ?_
  rintro t h' ⟨rfl, j, rfl, hj, hz⟩
  have e1 : Int.tdiv ((32 * j : Nat) : Int) 32 = (j : Int) := by
    have : Int.tdiv ((32 * j : Nat) : Int) 32 = ((32 * j / 32 : Nat) : Int) := rfl
    rw [this, Nat.mul_div_cancel_left _ (by decide)]
  rw [e1, w64 (n := (j : Int)) (by omega) (by omega)]
  have hts := aE (b := 4294967296) xs j hj
  have hxj := x2.get hj
  refine RI.ld x1 (j := j) rfl hj ⟨fun h0 => ?_, fun h0 => ?_⟩
  · simp only [beq_iff_eq] at h0
    have h0' : xs[j] = 0 := by omega
    have hz2 : val 4294967296 (xs.take (j + 1)) = 0 := by rw [hts, hz, h0']; simp
    have hj2 : j + 1 < xs.length := by
      by_cases h : j + 1 < xs.length
      · exact h
      · rw [List.take_of_length_le (by omega), x4] at hz2
        exact absurd hz2 hn
    rintro k rfl
    rw [w64 (by omega) (by omega)]
    exact ⟨⟨rfl, j + 1, by omega, hj2, hz2⟩, by omega⟩
  · simp only [beq_eq_false_iff_ne, ne_eq] at h0
    have hxj0 : 0 < xs[j] := by omega
    refine RI.ld x1 (j := j) rfl hj ?_
    refine aci ht hxj0 hxj fun t m ht32 htm => ?_
    have hd := bw (b := 4294967296) xs j hj
    have htot : n = 4294967296 ^ j * val 4294967296 (xs.drop j) := by
      have := bN (b := 4294967296) xs j
      rw [hz, Nat.min_eq_left (by omega), Nat.zero_add, x4] at this
      exact this
    have hlim2 : Lim 4294967296 (xs.drop j) := fun z hz => x2 z (List.mem_of_mem_drop hz)
    -- what is left, as an odd number
    have hodd : val 4294967296 (xs.drop j) = 2 ^ t * (2 * (m + 2 ^ (31 - t) * val 4294967296 (xs.drop (j + 1))) + 1) := by
      rw [hd, htm]
      have e : (4294967296 : Nat) = 2 ^ t * (2 * 2 ^ (31 - t)) := by
        rw [Nat.mul_comm 2, ← Nat.pow_succ, ← Nat.pow_add, show t + (31 - t + 1) = 32 from by omega]
      generalize val 4294967296 (xs.drop (j + 1)) = V
      conv => lhs; rw [e, Nat.mul_assoc, ← Nat.mul_add]
      congr 1
      rw [Nat.mul_add, Nat.mul_assoc]; omega
    generalize m + 2 ^ (31 - t) * val 4294967296 (xs.drop (j + 1)) = M at hodd
    have htot2 : n = 2 ^ (32 * j + t) * (2 * M + 1) := by
      rw [htot, hodd, ← Nat.mul_assoc, Nat.pow_add, Nat.pow_mul]
    rintro k1 rfl
    rw [w64 (n := ((32 * j : Nat) : Int) + (t : Int)) (by omega) (by omega)]
    have ek : ((32 * j : Nat) : Int) + (t : Int) = ((32 * j + t : Nat) : Int) := by simp
    rw [ek]
    have e2 : Int.tdiv ((32 * j + t : Nat) : Int) 32 = (j : Int) := by
      have : Int.tdiv ((32 * j + t : Nat) : Int) 32 = (((32 * j + t) / 32 : Nat) : Int) := rfl
      rw [this]; omega
    have e3 : Int.tmod ((32 * j + t : Nat) : Int) 32 = (t : Int) := by
      have : Int.tmod ((32 * j + t : Nat) : Int) 32 = (((32 * j + t) % 32 : Nat) : Int) := rfl
      rw [this]; omega
    rw [e2, e3, w64 (n := (j : Int)) (by omega) (by omega)]
    refine x1.drop rfl (Nat.le_of_lt hj) fun s' hs' _ => ?_
    have hdl : (xs.drop j).length ≤ xs.length := by simp
    refine jK hs' (by omega) fun v h1 hov he1 => ?_
    refine seq.cut (fun _ h2 => ∃ zs, OwnI .u32 h'.size h2 v zs ∧ Lim 4294967296 zs ∧ val 4294967296 zs = 2 * M + 1 ∧ zs.length = (xs.drop j).length ∧ Ext h' h2) ?_ ?_
    · rintro s0 rfl
      refine ⟨fun hpos => ?_, fun hnp => ?_⟩
      · simp only [gt_iff_lt, decide_eq_true_eq] at hpos
        refine aa3 (K0 := fun _ h2 => ∃ zs, OwnI .u32 h'.size h2 v zs ∧ Lim 4294967296 zs ∧ val 4294967296 zs = 2 * M + 1 ∧ zs.length = (xs.drop j).length ∧ Ext h' h2) hov hlim2 (by omega) (by omega) ht32 fun h2 zs hoz hlz hvz hzl hk => ⟨zs, hoz, hlz, ?_, hzl, Keep.own he1 hov (Nat.le_refl _) hk⟩
        rw [hvz, hodd, Nat.mul_div_cancel_left _ (Nat.pow_pos (by decide))]
      · simp only [gt_iff_lt, decide_eq_false_iff_not] at hnp
        have ht0 : t = 0 := by omega
        refine ⟨_, hov, hlim2, ?_, rfl, he1⟩
        rw [hodd, ht0]; simp
    · rintro _ h2 ⟨zs, hoz, hlz, hvz, hzl, he2⟩
      have hvl := hoz.r.len
      refine bG (n := 2 * M + 1) ⟨zs, hoz.r, hlz, hvz, by omega⟩ fun r hr _ hrl => ?_
      exact K r (32 * j + t) M h2 htot2 hr he2 (by omega) (by omega)
theorem vL {x : Sl} {n k : Nat} {h : Heap} {Q : Sl → Heap → Prop} (hx : NV h x n) (hxl : x.len ≤ 1090000) (hk : k ≤ 34000000)
    (K : ∀ r h', NN h' r (2 ^ k * n) → Ext h h' → (∀ b, r.blk = some b → h.size ≤ b) → Q r h') : gE x (k : Int) h Q := by
  unfold gE
  have e2 : Int.tdiv (k : Int) 32 = ((k / 32 : Nat) : Int) := rfl
  have e3 : Int.tmod (k : Int) 32 = ((k % 32 : Nat) : Int) := rfl
  rw [e2, e3, w64 (n := ((k / 32 : Nat) : Int)) (by omega) (by omega)]
  rintro t8 rfl
  rw [w64 (by omega) (by omega)]
  refine lY (m := k / 32 + 1) (by omega) (by omega) fun v h1 hov he1 hvl => ⟨by omega, ?_⟩
  have hp : 2 ^ (k % 32) < 4294967296 := by
    have : (2 : Nat) ^ (k % 32) ≤ 2 ^ 31 := Nat.pow_le_pow_right (by decide) (by omega)
    omega
  have e4 : IntKind.wrap .u32 (1 * 2 ^ (min (Int.toNat ((k % 32 : Nat) : Int)) (IntKind.bits .u32))) = ((2 ^ (k % 32) : Nat) : Int) := by
    have : min (Int.toNat ((k % 32 : Nat) : Int)) (IntKind.bits .u32) = k % 32 := by
      rw [Int.toNat_natCast]; exact Nat.min_eq_left (by show k % 32 ≤ 32; omega)
    rw [this, Int.one_mul, lL]
    have : (2 : Int) ^ (k % 32) = ((2 ^ (k % 32) : Nat) : Int) := by simp
    rw [this]
    generalize 2 ^ (k % 32) = p at *
    omega
  rw [e4]
  refine Own.st hov (j := k / 32) (m := 2 ^ (k % 32)) rfl (by simp) rfl fun h2 ho2 hk2 _ => ?_
  have he2 : Ext h h2 := Keep.own he1 hov (Nat.le_refl _) hk2
  have hl2 : Lim 4294967296 ((List.replicate (k / 32 + 1) 0).set (k / 32) (2 ^ (k % 32))) := Lim.set (fun z hz => by rw [List.eq_of_mem_replicate hz]; decide) _ hp
  have hv2 : val 4294967296 ((List.replicate (k / 32 + 1) 0).set (k / 32) (2 ^ (k % 32))) = 2 ^ k := by
    have h1 := fQ (b := 4294967296) (List.replicate (k / 32 + 1) 0) (k / 32) (by simp) (2 ^ (k % 32))
    rw [bh, List.getElem_replicate, Nat.mul_zero, Nat.add_zero, Nat.zero_add] at h1
    rw [h1]
    have : (4294967296 : Nat) = 2 ^ 32 := rfl
    rw [this, ← Nat.pow_mul, ← Nat.pow_add, Nat.div_add_mod]
  refine pU (hx.ext he2) ⟨_, ho2.r, hl2, hv2, by simp; omega⟩ (by omega) (by omega) fun w h3 zs hoz hlz hvz hzl he3 => ?_
  have hwl := hoz.r.len
  refine bG (n := n * 2 ^ k) ⟨zs, hoz.r, hlz, hvz, by omega⟩ fun r hr hrb _ => ?_
  rw [Nat.mul_comm] at hr
  refine K r h3 hr (he2.trans he3) (fun b hb => ?_)
  rw [hrb] at hb
  have := (hoz.lt hb).1
  have := he2.size
  omega
end Go.Sh

namespace Go.Sh
open Go Go.Lift
theorem wm (a : Nat) : Nat.Coprime 2 (2 * a + 1) := by
  have h1 : Nat.gcd 2 (2 * a + 1) = Nat.gcd ((2 * a + 1) % 2) 2 := Nat.gcd_rec 2 (2 * a + 1)
  have h2 : (2 * a + 1) % 2 = 1 := by omega
  rw [h2] at h1
  exact h1.trans (Nat.gcd_one_left 2)
theorem hJ (k a b : Nat) : Nat.gcd (2 * a + 1) (2 ^ k * b) = Nat.gcd (2 * a + 1) b :=
  Nat.Coprime.gcd_mul_left_cancel_right b ((wm a).pow_left k)
theorem jA (k a b : Nat) : Nat.gcd (2 ^ k * b) (2 * a + 1) = Nat.gcd b (2 * a + 1) := by
  rw [Nat.gcd_comm, hJ, Nat.gcd_comm]
theorem abh (k l a b : Nat) : Nat.gcd (2 ^ k * (2 * a + 1)) (2 ^ l * (2 * b + 1)) = 2 ^ (min k l) * Nat.gcd (2 * a + 1) (2 * b + 1) := by
  by_cases h : k ≤ l
  · have : 2 ^ l * (2 * b + 1) = 2 ^ k * (2 ^ (l - k) * (2 * b + 1)) := by
      rw [← Nat.mul_assoc, ← Nat.pow_add, show k + (l - k) = l from by omega]
    rw [this, Nat.gcd_mul_left, hJ, Nat.min_eq_left h]
  · have : 2 ^ k * (2 * a + 1) = 2 ^ l * (2 ^ (k - l) * (2 * a + 1)) := by
      rw [← Nat.mul_assoc, ← Nat.pow_add, show l + (k - l) = k from by omega]
    rw [this, Nat.gcd_mul_left, jA, Nat.min_eq_right (by omega)]
theorem wC {x y : Sl} {m n : Nat} {h : Heap} {Q : Sl → Heap → Prop} (ht : Tab h) (hx : NV h x m) (hy : NV h y n) (hxl : x.len ≤ 1050000) (hyl : y.len ≤ 1050000)
    (K : ∀ r h', NN h' r (Nat.gcd m n) → Ext h h' → (∀ b, r.blk = some b → (x.blk = some b ∧ Nat.gcd m n = m) ∨ (y.blk = some b ∧ Nat.gcd m n = n) ∨ h.size ≤ b) → Q r h') : gN x y h Q := by
  unfold gN
  refine bG hx fun x' hx' hxb hxl' => bG hy fun y' hy' hyb hyl' => ?_
  refine ⟨fun h0 => ?_, fun h0 => ⟨fun h1 => ?_, fun h1 => ?_⟩⟩
  · simp only [beq_iff_eq] at h0
    have hm : m = 0 := hx'.len_zero.1 (by omega)
    subst hm
    exact K y' h (by rw [Nat.gcd_zero_left]; exact hy') (Keep.refl _ _) (fun b hb => .inr (.inl ⟨by rw [← hyb]; exact hb, Nat.gcd_zero_left _⟩))
  · simp only [beq_iff_eq] at h1
    have hn : n = 0 := hy'.len_zero.1 (by omega)
    subst hn
    exact K x' h (by rw [Nat.gcd_zero_right]; exact hx') (Keep.refl _ _) (fun b hb => .inl ⟨by rw [← hxb]; exact hb, Nat.gcd_zero_right _⟩)
  simp only [beq_eq_false_iff_ne, ne_eq] at h0 h1
  have hm0 : m ≠ 0 := fun h => h0 (by have := hx'.len_zero.2 h; omega)
  have hn0 : n ≠ 0 := fun h => h1 (by have := hy'.len_zero.2 h; omega)
  refine seq.cut (fun _ h' => h' = h) ?_ ?_
  · refine gL hx'.nv fun v hv hvm => ⟨fun hs => ?_, fun _ => rfl⟩
    refine gL hy'.nv fun w hw hwn => ⟨fun hs2 => ?_, fun _ => rfl⟩
    have hvm := hvm (by simpa using hs)
    have hwn := hwn (by simpa using hs2)
    subst hvm hwn
    refine loop.inv (fun s h' => h' = h ∧ ∃ a b : Nat, s = ((a : Int), (b : Int)) ∧ a < 18446744073709551616 ∧ b < 18446744073709551616 ∧ Nat.gcd a b = Nat.gcd v w) (fun s _ => s.2.toNat) ⟨rfl, v, w, rfl, hv, hw, rfl⟩ ?_
    rintro s h' ⟨rfl, a, b, rfl, ha, hb, hg⟩
    dsimp only
    refine ⟨fun hne => ?_, fun he => ?_⟩
    · simp only [bne_iff_ne, ne_eq] at hne
      refine ⟨hne, ?_⟩
      have e : Int.tmod (a : Int) (b : Int) = ((a % b : Nat) : Int) := rfl
      rintro m' rfl
      rw [e]
      have hb0 : 0 < b := by omega
      have hlt := Nat.mod_lt a hb0
      refine ⟨⟨rfl, b, a % b, rfl, hb, by omega, ?_⟩, by simp only [Int.toNat_natCast]; exact hlt⟩
      rw [← hg, Nat.gcd_comm a b, Nat.gcd_rec b a, Nat.gcd_comm]
    · simp only [bne_eq_false_iff_eq] at he
      have hb0 : b = 0 := by omega
      subst hb0
      rw [Nat.gcd_zero_right] at hg
      subst hg
      refine qH rfl ha fun r h2 hr he2 hrb => K r h2 hr he2 (fun b hb => .inr (.inr (hrb b hb).1))
  · rintro _ h' rfl
    refine jW ht hx' hm0 (by omega) fun p k1 a h1 hm hp he1 hpl hk1 => ?_
    refine jW (ht.ext he1) (hy'.ext he1) hn0 (by omega) fun q k2 b h2 hn hq he2 hql hk2 => ?_
    have hp := hp.ext he2
    dsimp only
    have hgcd : Nat.gcd m n = 2 ^ (min k1 k2) * Nat.gcd (2 * a + 1) (2 * b + 1) := by rw [hm, hn, abh]
    have hmin : (if (k2 : Int) < (k1 : Int) then (k2 : Int) else (k1 : Int)) = ((min k1 k2 : Nat) : Int) := by split <;> omega
    rw [hmin]
    have hk : min k1 k2 ≤ 34000000 := by omega
    generalize min k1 k2 = kk at *
    clear hm hn hk1 hk2 hmin
    refine loop.inv (fun s h3 => ∃ c d : Nat, NN h3 s.1 (2 * c + 1) ∧ NN h3 s.2 (2 * d + 1) ∧ Nat.gcd (2 * c + 1) (2 * d + 1) = Nat.gcd (2 * a + 1) (2 * b + 1) ∧ s.1.len ≤ 1050000 ∧ s.2.len ≤ 1050000 ∧ Ext h' h3) (fun s h3 => aaU h3 s.1 + aaU h3 s.2)
      ⟨a, b, hp, hq, rfl, by dsimp only; omega, by dsimp only; omega, he1.trans he2⟩ ?_
    rintro ⟨s1, s2⟩ h3 ⟨c, d, hc, hd, hg, hl1, hl2, he3⟩
    simp only at hc hd hl1 hl2
    dsimp only
    rw [lq hc, lq hd]
    refine jv hc.nv hd.nv ⟨fun hne => ?_, fun heq => ?_⟩
    · have hcd : c ≠ d := fun h => by
        subst h
        simp [cmpI] at hne
      -- the greater one ahead
      refine seq.cut (fun t h4 => h4 = h3 ∧ ∃ e f : Nat, f < e ∧ e + f = c + d ∧ NN h3 t.1 (2 * e + 1) ∧ NN h3 t.2 (2 * f + 1) ∧ Nat.gcd (2 * e + 1) (2 * f + 1) = Nat.gcd (2 * a + 1) (2 * b + 1) ∧ t.1.len ≤ 1050000 ∧ t.2.len ≤ 1050000) ?_ ?_
      · refine jv hc.nv hd.nv ⟨fun hlt => ?_, fun hge => ?_⟩
        · simp only [decide_eq_true_eq] at hlt
          have hlt' : c < d := by
            unfold cmpI at hlt
            split at hlt
            · omega
            · split at hlt <;> simp at hlt
          exact ⟨rfl, d, c, hlt', by omega, hd, hc, by rw [Nat.gcd_comm]; exact hg, hl2, hl1⟩
        · simp only [decide_eq_false_iff_not] at hge
          have hge' : d < c := by
            unfold cmpI at hge
            split at hge
            · simp at hge
            · omega
          exact ⟨rfl, c, d, hge', by omega, hc, hd, hg, hl1, hl2⟩
      · rintro ⟨t1, t2⟩ h4 ⟨rfl, e, f, hfe, hsum, he, hf, hg2, hle, hlf⟩
        simp only at he hf hle hlf
        dsimp only
        refine jE he.nv hf.nv (by omega) (by omega) fun w h5 hw he5 _ hwl => ?_
        have hdiff : 2 * e + 1 - (2 * f + 1) = 2 * (e - f) := by omega
        rw [hdiff] at hw
        refine jW (ht.ext (he3.trans he5)) hw (by omega) (by omega) fun z k3 g h6 hz hzn he6 hzl hk3 => ?_
        have hf6 := (hf.ext he5).ext he6
        have hz1 : 2 * g + 1 ≤ 2 * (e - f) := by rw [hz]; exact Nat.le_mul_of_pos_left _ (Nat.pow_pos (by decide))
        refine ⟨⟨g, f, hzn, hf6, ?_, by dsimp only; omega, hlf, (he3.trans he5).trans he6⟩, ?_⟩
        · rw [← hg2, ← jA k3, ← hz]
          have : 2 * e + 1 = 2 * (e - f) + (2 * f + 1) := by omega
          rw [this, Nat.gcd_add_self_left]
        · rw [lq hzn, lq hf6]; omega
    · have hcd : c = d := by
        unfold cmpI at heq
        split at heq
        · simp at heq
        · split at heq
          · omega
          · simp at heq
      subst hcd
      rw [Nat.gcd_self] at hg
      refine vL hc.nv (by omega) hk fun r h4 hr he4 hrb => K r h4 (by rw [hgcd, ← hg]; exact hr) (he3.trans he4) (fun b hb => .inr (.inr ?_))
      have := hrb b hb
      have := he3.size
      omega
end Go.Sh

namespace Go.Sh
open Go Go.Lift
theorem aa7 {a : Addr} {lim : Nat} {ov : Bool} {x y : Sl} {m n : Nat} {h : Heap} {Q : Sl → Heap → Prop} (ht : Tab h) (hb : Bench h a lim ov) (hx : NV h x m) (hy : NV h y n) (hxl : x.len ≤ 1050000) (hyl : y.len ≤ 1050000)
    (hxb : x.blk = some a.block → m = 0) (hyb : y.blk = some a.block → n = 0)
    (K : ∀ r h', Bench h' a lim (ov || decide (lim < nl (Nat.gcd m n))) → Keep (some a.block) h h' → ((ov || decide (lim < nl (Nat.gcd m n))) = false → NN h' r (Nat.gcd m n)) → ((ov || decide (lim < nl (Nat.gcd m n))) = true → r = Sl.nil) → (∀ b, r.blk = some b → h.size ≤ b) → Q r h') : cD (some a) x y h Q := by
  unfold cD
  refine wC ht hx hy hxl hyl fun v h1 hv he hvb => ?_
  refine gX (hb.ext he) hv.nv (fun hbl => ?_) fun r h2 hb2 hk h3 h4 h5 => K r h2 hb2 ((Keep.of_ext he).trans hk) h3 h4 (fun b hbb => Nat.le_trans he.size (h5 b hbb))
  rcases hvb _ hbl with ⟨h1, h2⟩ | ⟨h1, h2⟩ | h1
  · rw [h2]; exact hxb h1
  · rw [h2]; exact hyb h1
  · have := hb.lt; omega
theorem abi {a : Addr} {lim : Nat} {ov : Bool} {x y : Sl} {m n : Nat} {h : Heap} {Q : Sl → Heap → Prop} (hb : Bench h a lim ov) (hx : NV h x m) (hy : NV h y n) (hxl : x.len ≤ 1048000)
    (K1 : m < n → Q Sl.nil h)
    (K : n ≤ m → ∀ r h', Bench h' a lim (ov || decide (lim < nl (m - n))) → Keep (some a.block) h h' → ((ov || decide (lim < nl (m - n))) = false → NN h' r (m - n)) → ((ov || decide (lim < nl (m - n))) = true → r = Sl.nil) → (∀ b, r.blk = some b → h.size ≤ b) → Q r h') : bQ (some a) x y h Q := by
  unfold bQ
  refine jv hx hy ⟨fun hlt => ?_, fun hge => ?_⟩
  · simp only [decide_eq_true_eq] at hlt
    refine K1 ?_
    unfold cmpI at hlt
    split at hlt
    · assumption
    · split at hlt <;> simp at hlt
  · simp only [decide_eq_false_iff_not] at hge
    have hle : n ≤ m := by
      unfold cmpI at hge
      split at hge
      · simp at hge
      · omega
    refine bG hy fun y' hy' _ _ => ?_
    refine jE hx hy'.nv (by omega) hle fun v h1 hv he hvb _ => ?_
    refine gX (hb.ext he) hv.nv (fun hbl => ?_) fun r h2 hb2 hk h3 h4 h5 => K hle r h2 hb2 ((Keep.of_ext he).trans hk) h3 h4 (fun b hbb => Nat.le_trans he.size (h5 b hbb))
    have := hvb _ hbl
    have := hb.lt
    omega
theorem aaO {a : Addr} {lim : Nat} {ov : Bool} {x y : Sl} {m n : Nat} {h : Heap} {Q : (Sl × Sl) → Heap → Prop} (hb : Bench h a lim ov) (hx : NV h x m) (hy : NV h y n) (hxl : x.len ≤ 30000) (hyl : y.len ≤ 30000)
    (K1 : n = 0 → Q (Sl.nil, Sl.nil) h)
    (K : n ≠ 0 → ∀ q r h' ov', ov' = (ov || decide (lim < nl (m / n)) || decide (lim < nl (m % n))) → Bench h' a lim ov' → Keep (some a.block) h h' → (ov' = false → NN h' q (m / n) ∧ NN h' r (m % n)) → (ov' = true → q = Sl.nil ∧ r = Sl.nil) → (∀ b, q.blk = some b ∨ r.blk = some b → h.size ≤ b) → Q (q, r) h') : bT (some a) x y h Q := by
  unfold bT
  refine bG hy fun y' hy' _ _ => ?_
  refine ⟨fun h0 => ?_, fun h0 => ?_⟩
  · simp only [beq_iff_eq] at h0
    exact K1 (hy'.len_zero.1 (by omega))
  · simp only [beq_eq_false_iff_ne, ne_eq] at h0
    have hn0 : n ≠ 0 := fun h => h0 (by have := hy'.len_zero.2 h; omega)
    refine vB hx hy hxl hyl hn0 fun q r h1 hq hr he hqb hrb => ?_
    dsimp only
    have hal := hb.lt
    have hq0 : q.blk ≠ some a.block := fun hbl => by have := (hqb _ hbl).1; omega
    have hr0 : r.blk ≠ some a.block := fun hbl => by have := hrb _ hbl; omega
    refine gX (hb.ext he) hq.nv (fun hbl => absurd hbl hq0) fun q2 h2 hb2 hk2 hf2 ht2 hs2 => ?_
    refine gX hb2 (hr.keep hk2 hr0).nv (fun hbl => absurd hbl hr0) fun r2 h3 hb3 hk3 hf3 ht3 hs3 => ?_
    have hkk : Keep (some a.block) h h3 := ((Keep.of_ext he).trans hk2).trans hk3
    have hsz := he.size
    have hsz2 := hk2.size
    refine ⟨a, rfl, _, hb3.over, fun hov => ?_, fun hov => ?_⟩
    · exact K hn0 Sl.nil Sl.nil h3 true hov.symm (by rw [hov] at hb3; exact hb3) hkk nofun (fun _ => ⟨rfl, rfl⟩) (fun b hb => by rcases hb with h | h <;> cases h)
    · have hov1 : (ov || decide (lim < nl (m / n))) = false := by
        cases hx : (ov || decide (lim < nl (m / n))) with
        | false => rfl
        | true => rw [hx] at hov; simp at hov
      have hq3 := (hf2 hov1).keep hk3 (fun hbl => by have := hs2 _ hbl; omega)
      refine K hn0 q2 r2 h3 false hov.symm (by rw [hov] at hb3; exact hb3) hkk (fun _ => ⟨hq3, hf3 hov⟩) nofun (fun b hb => ?_)
      rcases hb with h | h
      · have := hs2 b h; omega
      · have := hs3 b h; omega
end Go.Sh

namespace Go.Sh
open Go Go.Lift
end Go.Sh

namespace Go.Sh
open Go Go.Lift
def DN (h : Heap) (s : Sl) (n : Nat) : Prop := ∃ xs, RI .i64 h s xs ∧ Lim 10 xs ∧ Nrm xs ∧ val 10 xs = n
theorem DN.ext {h h' : Heap} {s : Sl} {n : Nat} (hn : DN h s n) (k : Ext h h') : DN h' s n := by
  obtain ⟨xs, h1, h2⟩ := hn
  exact ⟨xs, h1.ext k, h2⟩
theorem DN.keepO {h h' : Heap} {s : Sl} {n : Nat} {o : Option Nat} (hn : DN h s n) (k : Keep o h h') (hne : ∀ b, s.blk = some b → o ≠ some b) : DN h' s n := by
  obtain ⟨xs, h1, h2⟩ := hn
  exact ⟨xs, h1.keep k (fun a ha => fun e => hne a.block (by simp [Sl.blk, ha]) e.symm), h2⟩
theorem DN.len_le {h : Heap} {s : Sl} {n k : Nat} (hn : DN h s n) (hk : n < 10 ^ k) : s.len ≤ k := by
  obtain ⟨xs, h1, h2, h3, h4⟩ := hn
  rw [h1.len]
  exact fh (b := 10) (by decide) h3 (by rw [h4]; exact hk)
theorem DN.len_zero {h : Heap} {s : Sl} {n : Nat} (hs : DN h s n) : s.len = 0 ↔ n = 0 := by
  obtain ⟨xs, h1, h2, h3, h4⟩ := hs
  rw [h1.len]
  constructor
  · intro h; have := List.eq_nil_of_length_eq_zero h; subst this; exact h4.symm
  · intro h; subst h; rw [gY (by decide) h3 h4]; rfl
theorem CutD {x : Sl} {xs : List Nat} {h : Heap} {Q : Sl → Heap → Prop} (hx : RI .i64 h x xs) (hl : Lim 10 xs) (hb : xs.length ≤ 100000000000)
    (K : ∀ r, DN h r (val 10 xs) → r.blk = x.blk → Q r h) : bY x h Q :=
  aa1 hx hb fun r ys hr hpre hn hv hbl => K r ⟨ys, hr, by rw [hpre]; exact hl.take _, hn, hv⟩ hbl
theorem tW {x : Sl} {xs : List Nat} {h : Heap} {Q : Sl → Heap → Prop} (hx : RI .u32 h x xs) (hl : Lim 4294967296 xs) (hb : xs.length ≤ 2200000)
    (K : ∀ r h', DN h' r (val 4294967296 xs) → Ext h h' → (∀ b, r.blk = some b → h.size ≤ b) → Q r h') : iW x h Q := by
  unfold iW
  have lx := hx.len
  refine newN (kd := .i64) (ms := []) rfl fun h0 ho he _ => ?_
  rintro out rfl i rfl
  rw [w64 (n := (x.len : Int) - 1) (by omega) (by omega)]
  refine loop.inv (fun s h' => ∃ (j : Nat) (zs : List Nat), s.2 = (j : Int) - 1 ∧ j ≤ xs.length ∧ OwnI .i64 h.size h' s.1 zs ∧ Lim 10 zs ∧ val 10 zs = val 4294967296 (xs.drop j) ∧ zs.length ≤ 10 * (xs.length - j) ∧ Ext h h') (fun s _ => (s.2 + 1).toNat)
    ⟨xs.length, [], by dsimp only; omega, by omega, ho, Lim.nil, by simp [val], by simp, he⟩ ?_
  rintro ⟨o, i'⟩ h1 ⟨j, zs, hi, hj, hoz, hzl, hzv, hzlen, hext⟩
  simp only at hi hoz
  subst hi
  dsimp only
  refine ⟨fun hge => ?_, fun hlt => ?_⟩
  · simp only [ge_iff_le, decide_eq_true_eq] at hge
    have hj1 : j - 1 < xs.length := by omega
    refine RI.ld (hx.ext hext) (j := j - 1) (by omega) hj1 ?_
    have hxj := hl.get hj1
    have hdr := bw (b := 4294967296) xs (j - 1) hj1
    rw [show j - 1 + 1 = j from by omega, ← hzv] at hdr
    generalize xs[j - 1] = xj at *
    have lz := hoz.r.len
    rintro carry rfl
    rw [w64 (n := (xj : Int)) (by omega) (by omega)]
    refine loop.inv (fun s h' => ∃ (k c : Nat) (ys : List Nat), s.1 = (c : Int) ∧ s.2 = (k : Int) ∧ k ≤ zs.length ∧ c < 4294967296 ∧ OwnI .i64 h.size h' o ys ∧ Lim 10 ys ∧ ys.length = zs.length ∧
        val 10 (ys.take k) + 10 ^ k * c = 4294967296 * val 10 (zs.take k) + xj ∧ ys.drop k = zs.drop k ∧ Ext h h') (fun s _ => zs.length - s.2.toNat)
      ⟨0, xj, zs, rfl, rfl, by omega, hxj, hoz, hzl, rfl, by simp [val], rfl, hext⟩ ?_
    rintro ⟨c', k'⟩ h2 ⟨k, c, ys, hc, hk, hkl, hcb, hoy, hyl, hylen, hyv, hyd, hext2⟩
    simp only at hc hk
    subst hc hk
    dsimp only
    refine ⟨fun hlt2 => ?_, fun hge2 => ?_⟩
    · simp only [decide_eq_true_eq] at hlt2
      have hkn : k < ys.length := by omega
      have hkz : k < zs.length := by omega
      refine RI.ld hoy.r (j := k) rfl hkn ?_
      have hyk := hyl.get hkn
      have hdd : ys[k] = zs[k] ∧ ys.drop (k + 1) = zs.drop (k + 1) := by
        have h1 := List.drop_eq_getElem_cons hkn
        have h2 := List.drop_eq_getElem_cons hkz
        rw [hyd, h2] at h1
        simp only [List.cons.injEq] at h1
        exact ⟨h1.1.symm, h1.2.symm⟩
      have hsz := aE (b := 10) zs k hkz
      rw [← hdd.1] at hsz
      generalize hye : ys[k] = yk at *
      rintro nn rfl
      rw [w64 (n := (yk : Int) * 4294967296) (by omega) (by omega), w64 (n := (yk : Int) * 4294967296 + (c : Int)) (by omega) (by omega)]
      have e0 : (yk : Int) * 4294967296 + (c : Int) = ((yk * 4294967296 + c : Nat) : Int) := by simp
      have e1 : Int.tmod ((yk : Int) * 4294967296 + (c : Int)) 10 = (((yk * 4294967296 + c) % 10 : Nat) : Int) := by rw [e0]; rfl
      have e2 : Int.tdiv ((yk : Int) * 4294967296 + (c : Int)) 10 = (((yk * 4294967296 + c) / 10 : Nat) : Int) := by rw [e0]; rfl
      rw [e1, e2]
      refine Own.st hoy (j := k) (m := (yk * 4294967296 + c) % 10) rfl hkn rfl fun h3 ho3 hk3 _ => ?_
      rintro c1 rfl k1 rfl
      rw [w64 (by omega) (by omega), w64 (n := (k : Int) + 1) (by omega) (by omega)]
      refine ⟨⟨k + 1, (yk * 4294967296 + c) / 10, _, rfl, by omega, by omega, by omega, ho3, hyl.set _ (Nat.mod_lt _ (by decide)), by simpa using hylen, ?_, ?_, Keep.own hext2 hoy (Nat.le_refl _) hk3⟩, by omega⟩
      · have hlt3 : k < (ys.set k ((yk * 4294967296 + c) % 10)).length := by simpa using hkn
        rw [aE _ k hlt3, List.take_set_of_le (Nat.le_refl _), List.getElem_set_self, hsz, Nat.pow_succ]
        have e3 : 10 ^ k * ((yk * 4294967296 + c) % 10) + 10 ^ k * 10 * ((yk * 4294967296 + c) / 10) = 10 ^ k * (yk * 4294967296 + c) := by
          rw [Nat.mul_assoc, ← Nat.mul_add, Nat.mod_add_div]
        have e4 : 10 ^ k * (yk * 4294967296 + c) = 4294967296 * (10 ^ k * yk) + 10 ^ k * c := by
          rw [Nat.mul_add, ← Nat.mul_assoc, Nat.mul_comm (10 ^ k * yk) 4294967296]
        omega
      · rw [List.drop_set_of_lt (by omega)]; exact hdd.2
    · simp only [decide_eq_false_iff_not] at hge2
      have hk : k = zs.length := by omega
      subst hk
      rw [List.take_of_length_le (by omega), List.take_length] at hyv
      refine loop.inv (fun s h' => ∃ (p d : Nat) (ws : List Nat), s.2 = (d : Int) ∧ p ≤ 10 ∧ d < 10 ^ (10 - p) ∧ OwnI .i64 h.size h' s.1 ws ∧ Lim 10 ws ∧ ws.length = zs.length + p ∧
          val 10 ws + 10 ^ ws.length * d = val 10 ys + 10 ^ zs.length * c ∧ Ext h h') (fun s _ => s.2.toNat)
        ⟨0, c, ys, rfl, by omega, by simp; omega, hoy, hyl, hylen, by rw [hylen], hext2⟩ ?_
      rintro ⟨o2, d'⟩ h3 ⟨p, d, ws, hd, hp, hdp, how, hwl, hwlen, hwv, hext3⟩
      simp only at hd how
      subst hd
      dsimp only
      refine ⟨fun hd0 => ?_, fun hd0 => ?_⟩
      · simp only [gt_iff_lt, decide_eq_true_eq] at hd0
        have hp9 : p < 10 := by
          rcases Nat.lt_or_ge p 10 with h | h
          · exact h
          · have : p = 10 := by omega
            subst this; simp at hdp; omega
        have hpow : (10 : Nat) ^ (10 - p) = 10 * 10 ^ (10 - (p + 1)) := by rw [← Nat.pow_succ']; congr 1; omega
        have e1 : Int.tmod (d : Int) 10 = ((d % 10 : Nat) : Int) := rfl
        have e2 : Int.tdiv (d : Int) 10 = ((d / 10 : Nat) : Int) := rfl
        have hdb : (10 : Nat) ^ (10 - p) ≤ 10 ^ 10 := Nat.pow_le_pow_right (by decide) (by omega)
        rw [e1, e2]
        refine app1 (m := d % 10) rfl how hext3.size (by omega) fun s' h4 ho4 hk4 _ => ?_
        rintro c2 rfl
        rw [w64 (by omega) (by omega)]
        refine ⟨⟨p + 1, d / 10, _, rfl, by omega, by omega, ho4, hwl.snoc (Nat.mod_lt _ (by decide)), by simp; omega, ?_, Keep.own hext3 how (Nat.le_refl _) hk4⟩, by omega⟩
        rw [dj, List.length_append, List.length_singleton, Nat.pow_succ, ← hwv, Nat.add_assoc, Nat.mul_assoc, ← Nat.mul_add, Nat.mod_add_div]
      · simp only [gt_iff_lt, decide_eq_false_iff_not] at hd0
        have hd0' : d = 0 := by omega
        subst hd0'
        rintro i1 rfl
        rw [w64 (by omega) (by omega)]
        refine ⟨⟨j - 1, ws, by omega, by omega, how, hwl, by omega, by omega, hext3⟩, by omega⟩
  · simp only [ge_iff_le, decide_eq_false_iff_not] at hlt
    have hj0 : j = 0 := by omega
    subst hj0
    rw [List.drop_zero] at hzv
    refine CutD hoz.r hzl (by omega) fun r hr hbl => K r h1 (by rw [← hzv]; exact hr) hext (fun b hb => ?_)
    rw [hbl] at hb
    exact (hoz.lt hb).1
theorem jJ {x y : Sl} {m n : Nat} {h : Heap} {Q : Int → Heap → Prop} (hx : DN h x m) (hy : DN h y n) (hxl : x.len ≤ 100000000000) (K : Q (cmpI m n) h) : d8 x y h Q := by
  unfold d8
  obtain ⟨xs, x1, x2, x3, x4⟩ := hx
  obtain ⟨ys, y1, y2, y3, y4⟩ := hy
  have lx := x1.len
  have ly := y1.len
  have short : ∀ {as bs : List Nat}, Lim 10 as → Lim 10 bs → Nrm bs → as.length < bs.length → val 10 as < val 10 bs := by
    intro as bs ha hb hn hl
    have h1 := cw ha
    have h2 := sy (b := 10) (by decide) hn (by intro h; subst h; simp at hl)
    have h3 : 10 ^ as.length ≤ 10 ^ (bs.length - 1) := Nat.pow_le_pow_right (by decide) (by omega)
    omega
  have less : m < n → Q (-1) h := fun hl => by
    have : cmpI m n = -1 := by unfold cmpI; rw [if_pos hl]
    rw [this] at K; exact K
  have more : n < m → Q 1 h := fun hl => by
    have : cmpI m n = 1 := by unfold cmpI; rw [if_neg (by omega), if_neg (by omega)]
    rw [this] at K; exact K
  refine ⟨fun hne => ⟨fun hlt => ?_, fun hge => ?_⟩, fun heq => ?_⟩
  · simp only [decide_eq_true_eq] at hlt
    have := short x2 y2 y3 (by omega)
    exact less (by omega)
  · simp only [bne_iff_ne, ne_eq] at hne
    simp only [decide_eq_false_iff_not] at hge
    have := short y2 x2 x3 (by omega)
    exact more (by omega)
  · have hle : xs.length = ys.length := by simp at heq; omega
    rintro i rfl
    rw [w64 (by omega) (by omega)]
    refine loop.inv (fun s h' => h' = h ∧ ∃ j : Nat, s = (j : Int) - 1 ∧ j ≤ xs.length ∧ xs.drop j = ys.drop j) (fun s _ => (s + 1).toNat) ⟨rfl, xs.length, by omega, by omega, by rw [List.drop_length, hle, List.drop_length]⟩ ?_
    rintro s h' ⟨rfl, j, rfl, hjl, hd⟩
    refine ⟨fun hge => ?_, fun hlt => ?_⟩
    · simp only [ge_iff_le, decide_eq_true_eq] at hge
      have hj1 : j - 1 < xs.length := by omega
      have hj2 : j - 1 < ys.length := by omega
      refine RI.ld x1 (j := j - 1) (by omega) hj1 (RI.ld y1 (j := j - 1) (by omega) hj2 ?_)
      have dx := bw (b := 10) xs (j - 1) hj1
      have dy := bw (b := 10) ys (j - 1) hj2
      have tx := bN (b := 10) xs (j - 1)
      have ty := bN (b := 10) ys (j - 1)
      rw [show j - 1 + 1 = j from by omega] at dx dy
      rw [Nat.min_eq_left (by omega)] at tx ty
      have bx := cw (x2.take (j - 1))
      have by' := cw (y2.take (j - 1))
      rw [List.length_take, Nat.min_eq_left (by omega)] at bx by'
      have key : ∀ {a b p q A C : Nat}, a < A → b < A → p < q → a + A * (p + C) < b + A * (q + C) := by
        intro a b p q A C h1 h2 h3
        have : A * (p + C + 1) ≤ A * (q + C) := Nat.mul_le_mul_left _ (by omega)
        rw [Nat.mul_add A (p + C) 1] at this
        omega
      rw [hd] at dx
      rw [dx] at tx
      rw [dy] at ty
      refine ⟨fun hl => ?_, fun hl => ?_⟩
      · simp only [decide_eq_true_eq] at hl
        have h1 := key (C := 10 * val 10 (ys.drop j)) bx by' (show xs[j - 1] < ys[j - 1] by omega)
        rw [← tx, ← ty, x4, y4] at h1
        exact less h1
      · simp only [decide_eq_false_iff_not] at hl
        refine RI.ld x1 (j := j - 1) (by omega) hj1 (RI.ld y1 (j := j - 1) (by omega) hj2 ⟨fun hg => ?_, fun hg => ?_⟩)
        · simp only [gt_iff_lt, decide_eq_true_eq] at hg
          have h1 := key (p := ys[j - 1]) (q := xs[j - 1]) (C := 10 * val 10 (ys.drop j)) by' bx (by omega)
          rw [← tx, ← ty, x4, y4] at h1
          exact more h1
        · simp only [gt_iff_lt, decide_eq_false_iff_not] at hg
          rintro i' rfl
          rw [w64 (by omega) (by omega)]
          refine ⟨⟨rfl, j - 1, by omega, by omega, ?_⟩, by omega⟩
          rw [List.drop_eq_getElem_cons hj1, List.drop_eq_getElem_cons hj2, show j - 1 + 1 = j from by omega, hd]
          congr 1
          omega
    · simp only [ge_iff_le, decide_eq_false_iff_not] at hlt
      have hj0 : j = 0 := by omega
      subst hj0
      simp only [List.drop_zero] at hd
      subst hd
      have : cmpI m n = 0 := by
        unfold cmpI
        rw [← x4, ← y4]
        simp
      rw [this] at K; exact K
end Go.Sh

namespace Go.Sh
open Go Go.Lift
theorem yG {x y : Sl} {m n : Nat} {h : Heap} {Q : Sl → Heap → Prop} (hx : DN h x m) (hy : DN h y n) (hxl : x.len ≤ 100000000) (hyl : y.len ≤ 100000000)
    (K : ∀ r h', DN h' r (m + n) → Ext h h' → (∀ b, r.blk = some b → h.size ≤ b) → Q r h') : iV x y h Q := by
  obtain ⟨xs, x1, x2, x3, x4⟩ := hx
  obtain ⟨ys, y1, y2, y3, y4⟩ := hy
  have lx := x1.len
  have ly := y1.len
  unfold iV
  refine newN (kd := .i64) (ms := []) rfl fun h0 ho he _ => ?_
  rintro out rfl
  refine loop.inv (fun s h' => ∃ (zs : List Nat) (c i : Nat), s.2.1 = (c : Int) ∧ s.2.2 = (i : Int) ∧ OwnI .i64 h.size h' s.1 zs ∧ Lim 10 zs ∧ zs.length = i ∧ c ≤ 1 ∧ i + c ≤ max xs.length ys.length + 1 ∧
      val 10 zs + 10 ^ i * c = val 10 (xs.take i) + val 10 (ys.take i) ∧ Ext h h') (fun s _ => 2 * (max xs.length ys.length - s.2.2.toNat) + s.2.1.toNat) ⟨[], 0, 0, rfl, rfl, ho, Lim.nil, rfl, by omega, by omega, by simp [val], he⟩ ?_
  rintro ⟨o, carry, i'⟩ h' ⟨zs, c, i, hcc, hii, hoz, hzl, hzlen, hc1, hile, hval, hext⟩
  simp only at hcc hii hoz
  subst hcc hii
  dsimp only
  refine seq.cut (fun b h'' => h'' = h' ∧ b = decide (i < max xs.length ys.length ∨ 0 < c)) ?_ ?_
  · refine ⟨fun h1 => ?_, fun h1 => ⟨fun h2 => ?_, fun h2 => ?_⟩⟩
    · simp only [decide_eq_true_eq] at h1
      exact ⟨rfl, by simp; omega⟩
    · simp only [decide_eq_true_eq] at h2
      exact ⟨rfl, by simp; omega⟩
    · simp only [decide_eq_false_iff_not] at h1 h2
      exact ⟨rfl, decide_eq_decide.2 (by omega)⟩
  rintro b h'' ⟨rfl, rfl⟩
  refine ⟨fun hgo => ?_, fun hstop => ?_⟩
  · simp only [decide_eq_true_eq] at hgo
    have gx := Lim.getD x2 (by decide) i
    have gy := Lim.getD y2 (by decide) i
    refine seq.cut (fun n1 h3 => h3 = h'' ∧ n1 = ((c + xs.getD i 0 : Nat) : Int)) ?_ ?_
    · refine ⟨fun h1 => ?_, fun h1 => ?_⟩
      · simp only [decide_eq_true_eq] at h1
        have hi : i < xs.length := by omega
        refine RI.ld (x1.ext hext) (j := i) rfl hi ?_
        have hg := x2.get hi
        rintro z rfl
        rw [w64 (by omega) (by omega)]
        exact ⟨rfl, by simp [hi]⟩
      · simp only [decide_eq_false_iff_not] at h1
        have : xs.getD i 0 = 0 := by simp [List.getElem?_eq_none (show xs.length ≤ i by omega)]
        exact ⟨rfl, by rw [this]; rfl⟩
    rintro n1 h3 ⟨rfl, rfl⟩
    refine seq.cut (fun n2 h4 => h4 = h3 ∧ n2 = ((c + xs.getD i 0 + ys.getD i 0 : Nat) : Int)) ?_ ?_
    · refine ⟨fun h1 => ?_, fun h1 => ?_⟩
      · simp only [decide_eq_true_eq] at h1
        have hi : i < ys.length := by omega
        refine RI.ld (y1.ext hext) (j := i) rfl hi ?_
        have hg := y2.get hi
        rintro z rfl
        rw [w64 (by omega) (by omega)]
        exact ⟨rfl, by simp [hi]⟩
      · simp only [decide_eq_false_iff_not] at h1
        have : ys.getD i 0 = 0 := by simp [List.getElem?_eq_none (show ys.length ≤ i by omega)]
        exact ⟨rfl, by rw [this]; rfl⟩
    rintro n2 h4 ⟨rfl, rfl⟩
    generalize hsum : c + xs.getD i 0 + ys.getD i 0 = t at *
    have ht : t < 20 := by omega
    have e1 : Int.tmod (t : Int) 10 = ((t % 10 : Nat) : Int) := rfl
    have e2 : Int.tdiv (t : Int) 10 = ((t / 10 : Nat) : Int) := rfl
    rw [e1, e2]
    refine app1 (m := t % 10) rfl hoz hext.size (by omega) fun s' h5 ho5 hk5 _ => ?_
    rintro c2 rfl i2 rfl
    rw [w64 (by omega) (by omega), w64 (n := (i : Int) + 1) (by omega) (by omega)]
    have hover : max xs.length ys.length ≤ i → t = c := fun hm => by
      have h1 : xs.getD i 0 = 0 := by simp [List.getElem?_eq_none (show xs.length ≤ i by omega)]
      have h2 : ys.getD i 0 = 0 := by simp [List.getElem?_eq_none (show ys.length ≤ i by omega)]
      omega
    refine ⟨⟨zs ++ [t % 10], t / 10, i + 1, rfl, by omega, ho5, hzl.snoc (Nat.mod_lt _ (by decide)), by simp [hzlen], by omega, ?_, ?_, Keep.own hext hoz (Nat.le_refl _) hk5⟩, ?_⟩
    · rcases Nat.lt_or_ge i (max xs.length ys.length) with h | h
      · omega
      · have := hover h; omega
    · rw [dj, hzlen, bA, bA, Nat.pow_succ]
      have e1 : 10 ^ i * (t % 10) + 10 ^ i * 10 * (t / 10) = 10 ^ i * t := by
        rw [Nat.mul_assoc, ← Nat.mul_add, Nat.mod_add_div]
      have e2 : 10 ^ i * t = 10 ^ i * c + 10 ^ i * xs.getD i 0 + 10 ^ i * ys.getD i 0 := by
        rw [← hsum, Nat.mul_add, Nat.mul_add]
      omega
    · rcases Nat.lt_or_ge i (max xs.length ys.length) with h | h
      · omega
      · have := hover h; omega
  · simp only [decide_eq_false_iff_not] at hstop
    have hc0 : c = 0 := by omega
    subst hc0
    rw [dW _ _ (by omega), dW _ _ (by omega), x4, y4, Nat.mul_zero, Nat.add_zero] at hval
    refine CutD hoz.r hzl (by omega) fun r hr hbl => K r h'' (by rw [← hval]; exact hr) hext (fun b hb => ?_)
    rw [hbl] at hb
    exact (hoz.lt hb).1
theorem j7 {x y : Sl} {m n : Nat} {h : Heap} {Q : Sl → Heap → Prop} (hx : DN h x m) (hy : DN h y n) (hxl : x.len ≤ 1000000000)
    (K : ∀ r h', DN h' r (m - n) → Ext h h' → (∀ b, r.blk = some b → h.size ≤ b) → Q r h') : eG x y h Q := by
  unfold eG
  refine jJ hx hy (by omega) ⟨fun hlt => ?_, fun hge => ?_⟩
  · simp only [decide_eq_true_eq] at hlt
    have hmn : m < n := by
      unfold cmpI at hlt
      split at hlt
      · assumption
      · split at hlt <;> simp at hlt
    refine newN (kd := .i64) (ms := []) rfl fun h0 ho he _ => ?_
    exact K _ h0 ⟨[], ho.r, Lim.nil, Nrm.nil, by rw [ru]; omega⟩ he (fun b hb => (ho.lt hb).1)
  · simp only [decide_eq_false_iff_not] at hge
    have hnm : n ≤ m := by
      unfold cmpI at hge
      split at hge
      · simp at hge
      · omega
    obtain ⟨xs, x1, x2, x3, x4⟩ := hx
    obtain ⟨ys, y1, y2, y3, y4⟩ := hy
    have lx := x1.len
    have ly := y1.len
    have hyx : ys.length ≤ xs.length := fh (b := 10) (by decide) y3 (by rw [y4]; have := cw x2; omega)
    refine newN (kd := .i64) (ms := []) rfl fun h0 ho he _ => ?_
    rintro out rfl
    refine loop.inv (fun s h' => ∃ (zs : List Nat) (c i : Nat), s.2.1 = (c : Int) ∧ s.2.2 = (i : Int) ∧ OwnI .i64 h.size h' s.1 zs ∧ Lim 10 zs ∧ zs.length = i ∧ i ≤ xs.length ∧ c ≤ 1 ∧
        val 10 (xs.take i) + 10 ^ i * c = val 10 zs + val 10 (ys.take i) ∧ Ext h h') (fun s _ => xs.length - s.2.2.toNat) ⟨[], 0, 0, rfl, rfl, ho, Lim.nil, rfl, by omega, by omega, by simp [val], he⟩ ?_
    rintro ⟨o, carry, i'⟩ h' ⟨zs, c, i, hcc, hii, hoz, hzl, hzlen, hile, hc1, hval, hext⟩
    simp only at hcc hii hoz
    subst hcc hii
    dsimp only
    refine ⟨fun hlt => ?_, fun hge2 => ?_⟩
    · simp only [decide_eq_true_eq] at hlt
      have hi : i < xs.length := by omega
      refine RI.ld (x1.ext hext) (j := i) rfl hi ?_
      have hxi := x2.get hi
      have hts := aE (b := 10) xs i hi
      have gy := Lim.getD y2 (by decide) i
      generalize xs[i] = xi at *
      rintro n0 rfl
      rw [w64 (by omega) (by omega)]
      refine seq.cut (fun n2 h4 => h4 = h' ∧ n2 = (xi : Int) - (c : Int) - (ys.getD i 0 : Nat)) ?_ ?_
      · refine ⟨fun h1 => ?_, fun h1 => ?_⟩
        · simp only [decide_eq_true_eq] at h1
          have hi : i < ys.length := by omega
          refine RI.ld (y1.ext hext) (j := i) rfl hi ?_
          have hg := y2.get hi
          rintro z rfl
          rw [w64 (by omega) (by omega)]
          exact ⟨rfl, by simp [hi]⟩
        · simp only [decide_eq_false_iff_not] at h1
          have : ys.getD i 0 = 0 := by simp [List.getElem?_eq_none (show ys.length ≤ i by omega)]
          exact ⟨rfl, by rw [this]; simp⟩
      rintro n2 h4 ⟨rfl, rfl⟩
      have hys := bA (b := 10) ys i
      generalize ys.getD i 0 = yi at *
      refine seq.cut (fun t h5 => h5 = h4 ∧ ∃ c2 d : Nat, t = ((c2 : Int), (d : Int)) ∧ c2 ≤ 1 ∧ d < 10 ∧ xi + 10 * c2 = d + c + yi) ?_ ?_
      · refine ⟨fun h1 => ?_, fun h1 => ?_⟩
        · simp only [decide_eq_true_eq] at h1
          rintro z rfl
          rw [w64 (by omega) (by omega)]
          refine ⟨rfl, 1, xi + 10 - c - yi, ?_, by omega, by omega, by omega⟩
          congr 1
          omega
        · simp only [decide_eq_false_iff_not] at h1
          refine ⟨rfl, 0, xi - c - yi, ?_, by omega, by omega, by omega⟩
          congr 1
          omega
      rintro t h5 ⟨rfl, c2, d, rfl, hc2, hd, heq⟩
      dsimp only
      refine app1 (m := d) rfl hoz hext.size (by omega) fun s' h6 ho6 hk6 _ => ?_
      rintro i2 rfl
      rw [w64 (by omega) (by omega)]
      refine ⟨⟨zs ++ [d], c2, i + 1, rfl, by omega, ho6, hzl.snoc hd, by simp [hzlen], by omega, hc2, ?_, Keep.own hext hoz (Nat.le_refl _) hk6⟩, by omega⟩
      rw [dj, hzlen, hts, hys, Nat.pow_succ]
      have e1 : 10 ^ i * (xi + 10 * c2) = 10 ^ i * (d + c + yi) := by rw [heq]
      simp only [Nat.mul_add] at e1
      have e2 : 10 ^ i * (10 * c2) = 10 ^ i * 10 * c2 := by rw [Nat.mul_assoc]
      omega
    · simp only [decide_eq_false_iff_not] at hge2
      have hi : i = xs.length := by omega
      subst hi
      rw [List.take_length, List.take_of_length_le hyx, x4, y4] at hval
      have hzb := cw hzl
      rw [hzlen] at hzb
      have hc0 : c = 0 := by
        rcases Nat.lt_or_ge c 1 with h | h
        · omega
        · have : c = 1 := by omega
          subst this
          have := Nat.mul_one (10 ^ xs.length)
          omega
      subst hc0
      rw [Nat.mul_zero, Nat.add_zero] at hval
      have hv : val 10 zs = m - n := by omega
      refine CutD hoz.r hzl (by omega) fun r hr hbl => K r h' (by rw [← hv]; exact hr) hext (fun b hb => ?_)
      rw [hbl] at hb
      exact (hoz.lt hb).1
end Go.Sh

namespace Go.Sh
open Go Go.Lift
theorem d7 {x y : Sl} {m n : Nat} {h : Heap} {Q : Sl → Heap → Prop} (hx : DN h x m) (hy : DN h y n) (hxl : x.len ≤ 100000000) (hyl : y.len ≤ 100000000)
    (K : ∀ r h', DN h' r (m * n) → Ext h h' → (∀ b, r.blk = some b → h.size ≤ b) → Q r h') : cS x y h Q := by
  obtain ⟨xs, x1, x2, x3, x4⟩ := hx
  obtain ⟨ys, y1, y2, y3, y4⟩ := hy
  have lx := x1.len
  have ly := y1.len
  unfold cS
  rintro t15 rfl
  rw [w64 (n := (x.len : Int) + (y.len : Int)) (by omega) (by omega), w64 (by omega) (by omega)]
  refine lY (m := xs.length + ys.length + 1) (by omega) (by omega) fun v h0 ho0 he0 hvl => ?_
  have hyn := cw y2
  rw [y4] at hyn
  refine loop.inv (fun s h' => ∃ (zs : List Nat) (i : Nat), s = (i : Int) ∧ OwnI .i64 h.size h' v zs ∧ Lim 10 zs ∧ zs.length = xs.length + ys.length + 1 ∧ i ≤ xs.length ∧
      val 10 zs = val 10 (xs.take i) * n ∧ Ext h h') (fun s _ => xs.length - s.toNat)
    ⟨List.replicate (xs.length + ys.length + 1) 0, 0, rfl, ho0, fun z hz => by rw [List.eq_of_mem_replicate hz]; decide, by simp, by omega, by rw [bh]; simp [val], he0⟩ ?_
  rintro s h1 ⟨zs, i, rfl, ho, hlim, hzl, hile, hval, hext⟩
  refine ⟨fun hlt => ?_, fun hge => ?_⟩
  · simp only [decide_eq_true_eq] at hlt
    have hi : i < xs.length := by omega
    have hxi := x2.get hi
    have hts := aE (b := 10) xs i hi
    have htot : val 10 (xs.take (i + 1)) * n < 10 ^ (i + 1 + ys.length) := by
      have h1 := cw (x2.take (i + 1))
      rw [List.length_take, Nat.min_eq_left (by omega)] at h1
      rw [Nat.pow_add]
      exact Nat.mul_lt_mul'' h1 hyn
    have htot2 : val 10 (xs.take (i + 1)) * n = val 10 zs + 10 ^ i * (xs[i] * n) := by
      rw [hts, Nat.add_mul, ← hval, Nat.mul_assoc]
    generalize hxe : xs[i] = xi at *
    refine loop.inv (fun s h' => ∃ (k c : Nat) (ws : List Nat), s.1 = (c : Int) ∧ s.2 = (k : Int) ∧ c ≤ 9 ∧ (k ≤ ys.length ∨ c = 0) ∧ k ≤ ys.length + 1 ∧ OwnI .i64 h.size h' v ws ∧ Lim 10 ws ∧ ws.length = xs.length + ys.length + 1 ∧
        val 10 ws + 10 ^ (i + k) * c = val 10 zs + 10 ^ i * (xi * val 10 (ys.take k)) ∧ Ext h h') (fun s _ => ys.length + 1 - s.2.toNat)
      ⟨0, 0, zs, rfl, rfl, by omega, .inl (by omega), by omega, ho, hlim, hzl, by simp [val], hext⟩ ?_
    rintro ⟨c', k'⟩ h2 ⟨k, c, ws, hc, hk, hc9, hkc, hk1, how, hwl, hwlen, hwv, hext2⟩
    simp only at hc hk
    subst hc hk
    dsimp only
    refine seq.cut (fun b h'' => h'' = h2 ∧ b = decide (k < ys.length ∨ 0 < c)) ?_ ?_
    · refine ⟨fun h1 => ?_, fun h1 => ?_⟩
      · simp only [decide_eq_true_eq] at h1
        exact ⟨rfl, by simp; omega⟩
      · simp only [decide_eq_false_iff_not] at h1
        exact ⟨rfl, decide_eq_decide.2 (by omega)⟩
    rintro b h3 ⟨rfl, rfl⟩
    refine ⟨fun hgo => ?_, fun hstop => ?_⟩
    · simp only [decide_eq_true_eq] at hgo
      have hkl : k ≤ ys.length := by omega
      -- beyond y something is carried only where there is room
      have hik : i + k < ws.length := by omega
      rw [w64 (n := (i : Int) + (k : Int)) (by omega) (by omega)]
      refine RI.ld how.r (j := i + k) (by omega) hik ?_
      have hwk := hwl.get hik
      have hset := fQ (b := 10) ws (i + k) hik
      have gy := Lim.getD y2 (by decide) k
      have hys := bA (b := 10) ys k
      generalize hwe : ws[i + k] = wk at *
      rintro n0 rfl
      rw [w64 (n := (wk : Int) + (c : Int)) (by omega) (by omega)]
      have hprod : xi * ys.getD k 0 ≤ 9 * 9 := Nat.mul_le_mul (by omega) (by omega)
      refine seq.cut (fun n2 h4 => h4 = h3 ∧ n2 = ((wk + c + xi * ys.getD k 0 : Nat) : Int)) ?_ ?_
      · refine ⟨fun h1 => ?_, fun h1 => ?_⟩
        · simp only [decide_eq_true_eq] at h1
          have hky : k < ys.length := by omega
          refine RI.ld (x1.ext hext2) (j := i) rfl hi (RI.ld (y1.ext hext2) (j := k) rfl hky ?_)
          have e1 : ys.getD k 0 = ys[k] := by simp [hky]
          rw [e1] at hprod ⊢
          rw [hxe]
          have e2 : (xi : Int) * (ys[k] : Int) = ((xi * ys[k] : Nat) : Int) := by simp
          rw [e2]
          generalize xi * ys[k] = p at *
          rintro z rfl
          rw [w64 (n := (p : Int)) (by omega) (by omega), w64 (by omega) (by omega)]
          exact ⟨rfl, by omega⟩
        · simp only [decide_eq_false_iff_not] at h1
          have : ys.getD k 0 = 0 := by simp [List.getElem?_eq_none (show ys.length ≤ k by omega)]
          exact ⟨rfl, by rw [this]; simp⟩
      rintro n2 h4 ⟨rfl, rfl⟩
      -- where y has ended, what is carried ends, too
      have hend : ys.length ≤ k → (wk + c + xi * ys.getD k 0) / 10 = 0 := fun hyk => by
        have h0 : ys.getD k 0 = 0 := by simp [List.getElem?_eq_none hyk]
        rw [h0, Nat.mul_zero, Nat.add_zero]
        have hke : k = ys.length := by omega
        rw [List.take_of_length_le hyk, y4, ← htot2] at hwv
        have h1 := hset 0
        rw [Nat.mul_zero, Nat.add_zero] at h1
        have h3 : 10 ^ (i + k) * (wk + c) < 10 ^ (i + k) * 10 := by
          have : 10 ^ (i + k) * 10 = 10 ^ (i + 1 + ys.length) := by rw [← Nat.pow_succ]; congr 1; omega
          rw [this, Nat.mul_add]
          omega
        have := Nat.lt_of_mul_lt_mul_left h3
        omega
      generalize htt : wk + c + xi * ys.getD k 0 = t at *
      have ht : t < 100 := by omega
      have e1 : Int.tmod (t : Int) 10 = ((t % 10 : Nat) : Int) := rfl
      have e2 : Int.tdiv (t : Int) 10 = ((t / 10 : Nat) : Int) := rfl
      rw [e1, e2]
      refine Own.st how (j := i + k) (m := t % 10) (by omega) hik rfl fun h5 ho5 hk5 _ => ?_
      rintro c2 rfl k2 rfl
      rw [w64 (by omega) (by omega), w64 (n := (k : Int) + 1) (by omega) (by omega)]
      refine ⟨⟨k + 1, t / 10, _, rfl, by omega, by omega, ?_, by omega, ho5, hwl.set _ (Nat.mod_lt _ (by decide)), by simpa using hwlen, ?_, Keep.own hext2 how (Nat.le_refl _) hk5⟩, by omega⟩
      · rcases Nat.lt_or_ge k ys.length with h | h
        · left; omega
        · right; exact hend h
      · have h1 := hset (t % 10)
        rw [hys, show i + (k + 1) = (i + k) + 1 from by omega, Nat.pow_succ]
        have e1 : 10 ^ (i + k) * (t % 10) + 10 ^ (i + k) * 10 * (t / 10) = 10 ^ (i + k) * t := by
          rw [Nat.mul_assoc, ← Nat.mul_add, Nat.mod_add_div]
        have e2 : 10 ^ (i + k) * t = 10 ^ (i + k) * wk + 10 ^ (i + k) * c + 10 ^ (i + k) * (xi * ys.getD k 0) := by
          rw [← htt, Nat.mul_add, Nat.mul_add]
        have e3 : 10 ^ i * (xi * (val 10 (List.take k ys) + 10 ^ k * ys.getD k 0)) = 10 ^ i * (xi * val 10 (List.take k ys)) + 10 ^ (i + k) * (xi * ys.getD k 0) := by
          rw [Nat.mul_add, Nat.mul_add, Nat.pow_add]
          congr 1
          rw [Nat.mul_left_comm xi, Nat.mul_assoc]
        rw [e3]
        omega
    · simp only [decide_eq_false_iff_not] at hstop
      have hc0 : c = 0 := by omega
      subst hc0
      rw [Nat.mul_zero, Nat.add_zero, List.take_of_length_le (by omega), y4, ← htot2] at hwv
      rintro i2 rfl
      rw [w64 (by omega) (by omega)]
      exact ⟨⟨ws, i + 1, by omega, how, hwl, hwlen, by omega, hwv, hext2⟩, by omega⟩
  · simp only [decide_eq_false_iff_not] at hge
    have hi : i = xs.length := by omega
    subst hi
    rw [List.take_length, x4] at hval
    refine CutD ho.r hlim (by omega) fun r hr hbl => K r h1 (by rw [← hval]; exact hr) hext (fun b hb => ?_)
    rw [hbl] at hb
    exact (ho.lt hb).1
end Go.Sh

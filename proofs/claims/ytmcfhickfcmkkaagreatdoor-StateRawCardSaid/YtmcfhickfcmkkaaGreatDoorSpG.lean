/-
  Laws that the proof of this claim's statement leans on, each proved under the conditions that it states.
-/
import Derived.Test.YtmcfhickfcmkkaaGreatDoorSpA
set_option linter.unusedVariables false
set_option linter.unusedSimpArgs false
namespace Go.Sh
open Go Go.Lift
def ajB : List Nat := [0, 1, 28, 2, 29, 14, 24, 3, 30, 22, 20, 15, 25, 17, 4, 8, 31, 27, 13, 23, 21, 19, 16, 7, 26, 12, 18, 6, 11, 5, 10, 9]
abbrev Tab (h : Heap) : Prop := RI .u8 h ⟨some ⟨aD, 0, none⟩, 32, 32⟩ ajB
theorem ajD : ∀ {x : Nat}, 0 < x → ∃ k m, x = 2 ^ k * (2 * m + 1) := by
  intro x
  induction x using Nat.strongRecOn with
  | _ x ih =>
    intro hx
    by_cases hodd : x % 2 = 1
    · exact ⟨0, x / 2, by simp; omega⟩
    · obtain ⟨k, m, h⟩ := ih (x / 2) (by omega) (by omega)
      refine ⟨k + 1, m, ?_⟩
      rw [Nat.pow_succ, Nat.mul_assoc, Nat.mul_left_comm, ← h]
      omega
theorem aky {x k m : Nat} (hx : x < 4294967296) (h : x = 2 ^ k * (2 * m + 1)) : x &&& (4294967296 - x) = 2 ^ k ∧ k < 32 := by
  have hpos : 0 < 2 ^ k := Nat.pow_pos (by decide)
  have hx0 : 0 < x := by rw [h]; exact Nat.mul_pos hpos (by omega)
  have hk : k < 32 := by
    have h1 : 2 ^ k ≤ x := by rw [h]; exact Nat.le_mul_of_pos_right _ (by omega)
    have h2 : (2 : Nat) ^ k < 2 ^ 32 := by omega
    exact (Nat.pow_lt_pow_iff_right (by decide)).1 h2
  refine ⟨?_, hk⟩
  have e1 : x - 1 = 2 ^ k * (2 * m) + (2 ^ k - 1) := by
    rw [h, Nat.mul_add, Nat.mul_one]; omega
  have e2 : (4294967296 : Nat) - x = 2 ^ 32 - ((x - 1) + 1) := by omega
  apply Nat.eq_of_testBit_eq
  intro i
  rw [Nat.testBit_and, e2, Nat.testBit_two_pow_sub_succ (by omega), e1, h]
  rw [Nat.testBit_two_pow_mul_add _ (by omega)]
  have e3 : 2 ^ k * (2 * m + 1) = 2 ^ k * (2 * m + 1) + 0 := rfl
  rw [e3, Nat.testBit_two_pow_mul_add _ hpos, Nat.testBit_two_pow]
  by_cases h1 : i < k
  · rw [if_pos h1]
    simp
    omega
  · rw [if_neg h1, if_neg h1]
    by_cases h2 : i = k
    · subst h2
      simp [hk]
    · obtain ⟨j, hj⟩ : ∃ j, i - k = j + 1 := ⟨i - k - 1, by omega⟩
      rw [hj, Nat.testBit_succ, Nat.testBit_succ]
      have e4 : (2 * m + 1) / 2 = m := by omega
      have e5 : (2 * m) / 2 = m := by omega
      rw [e4, e5]
      have : decide (k = i) = false := by simp; omega
      rw [this]
      cases m.testBit j <;> simp
theorem amW {p q : Nat} (hp : p < 4294967296) (hq : q < 4294967296) : ((BitVec.ofInt (IntKind.bits .u32) (p : Int) &&& BitVec.ofInt (IntKind.bits .u32) (q : Int)).toNat : Int) = ((p &&& q : Nat) : Int) := by
  show ((BitVec.ofInt 32 (p : Int) &&& BitVec.ofInt 32 (q : Int)).toNat : Int) = _
  rw [BitVec.toNat_and, BitVec.toNat_ofInt, BitVec.toNat_ofInt]
  congr 2 <;> omega
theorem ahq : ∀ k, k < 32 → (2 ^ k * 125613361 % 4294967296) / 134217728 < 32 ∧ ajB[(2 ^ k * 125613361 % 4294967296) / 134217728]? = some k := by decide
theorem alq {x : Nat} {h : Heap} {Q : Int → Heap → Prop} (ht : Tab h) (h0 : 0 < x) (hx : x < 4294967296) (K : ∀ k m : Nat, k < 32 → x = 2 ^ k * (2 * m + 1) → Q (k : Int) h) : cR (x : Int) h Q := by
  obtain ⟨k, m, hkm⟩ := ajD h0
  obtain ⟨hlow, hk⟩ := aky hx hkm
  obtain ⟨hlt, htab⟩ := ahq k hk
  unfold cR
  refine ⟨fun hz => ?_, fun _ => ?_⟩
  · simp only [beq_iff_eq] at hz; omega
  have e1 : IntKind.wrap .u32 (0 - (x : Int)) = ((4294967296 - x : Nat) : Int) := by rw [vA]; omega
  have hpk : 2 ^ k < 4294967296 := Nat.lt_of_le_of_lt (show 2 ^ k ≤ x by rw [hkm]; exact Nat.le_mul_of_pos_right _ (by omega)) hx
  have e2 : Int.fdiv (IntKind.wrap .u32 ((IntKind.wrap .u32 (((BitVec.ofInt (IntKind.bits .u32) (x : Int) &&& BitVec.ofInt (IntKind.bits .u32) (IntKind.wrap .u32 (0 - (x : Int)))).toNat : Int))) * 125613361)) (2 ^ (min (Int.toNat 27) (IntKind.bits .u32))) = (((2 ^ k * 125613361 % 4294967296) / 134217728 : Nat) : Int) := by
    rw [e1, amW hx (by omega), hlow]
    generalize hp : 2 ^ k = p at *
    rw [wu32 (n := (p : Int)) (by omega) (by omega), vA]
    show Int.fdiv _ 134217728 = _
    rw [Int.fdiv_eq_ediv_of_nonneg _ (by omega)]
    have e3 : (p : Int) * 125613361 = ((p * 125613361 : Nat) : Int) := by simp
    rw [e3]
    generalize p * 125613361 = u
    clear hlow e3 e1 hkm
    omega
  rw [e2]
  generalize (2 ^ k * 125613361 % 4294967296) / 134217728 = j at *
  refine ⟨⟨by omega, by omega⟩, ?_⟩
  obtain ⟨hj, hv⟩ := List.getElem?_eq_some_iff.1 htab
  obtain ⟨a, ha, hc⟩ := ht.get hj
  simp only [Option.some.injEq] at ha
  subst ha
  refine ⟨(k : Int), ?_, ?_⟩
  · rw [Int.toNat_natCast, Nat.mul_one, hc, hv]
  · show Q (IntKind.wrap .i64 (k : Int)) h
    rw [w64 (by omega) (by omega)]
    exact K k m hk hkm
end Go.Sh

namespace Go.Lift
open Go
theorem R.drop {α : Type} {toV : α → Value} {h : Heap} {s : Sl} {xs : List α} (hr : R toV h s xs) {i : Int} {j : Nat} {k : Sl → Prop} (hij : i = (j : Int)) (hj : j ≤ xs.length) (K : ∀ s', R toV h s' (xs.drop j) → s'.blk = s.blk → k s') : ki s (some i) none none 1 k := by
  subst hij
  have hl := hr.len
  have hcap := hr.cap
  refine ⟨⟨by simp, by simp⟩, ⟨by simp, .inl rfl⟩, ⟨by simp, by simp; omega⟩, ?_⟩
  simp only [Option.getD_none, Option.getD_some, Int.toNat_natCast, Nat.mul_one]
  by_cases hcj : (s.cap : Int) = (j : Int)
  · rw [if_pos hcj]
    have hx : xs.drop j = [] := List.drop_eq_nil_of_le (by omega)
    refine K _ ?_ rfl
    rw [hx]
    exact R.nil_of (by dsimp only; omega) |> fun r => ⟨r.len, by dsimp only; omega, r.cells⟩
  · rw [if_neg hcj]
    cases ha : s.a with
    | none =>
      have hx : xs = [] := by
        have := hr.cells; rw [ha] at this
        simp only [cellsO?, Option.some.injEq] at this
        cases xs with
        | nil => rfl
        | cons x xs => simp at this
      subst hx
      refine K _ ?_ (by simp [Sl.blk, ha])
      have hj0 : j = 0 := by simpa using hj
      subst hj0
      simp only [List.length_nil] at hl
      exact ⟨by simpa using hl, by dsimp only; omega, by simp [cellsO?]⟩
    | some a =>
      refine K _ (R.mk' (by simp; omega) (by dsimp only; omega) (a.add j) rfl (fun i hi => ?_)) (by simp [Sl.blk, ha, aj])
      simp only [List.length_drop] at hi
      obtain ⟨a', ha', hc⟩ := hr.get (i := j + i) (by omega)
      rw [ha] at ha'; cases ha'
      rw [b7, hc, List.getElem_drop]
end Go.Lift
namespace Go.Sh
open Go Go.Lift
theorem ak9 {y V s : Nat} (hs : s < 32) : (y + 4294967296 * V) / 2 ^ s = y / 2 ^ s + 2 ^ (32 - s) * (V % 2 ^ s) + 4294967296 * (V / 2 ^ s) := by
  have hp : 0 < 2 ^ s := Nat.pow_pos (by decide)
  have e : (4294967296 : Nat) = 2 ^ s * 2 ^ (32 - s) := by
    rw [← Nat.pow_add, show s + (32 - s) = 32 from by omega]
  conv => lhs; rw [e, Nat.mul_assoc, Nat.add_mul_div_left _ _ hp]
  have h1 : 2 ^ (32 - s) * V = 2 ^ (32 - s) * (V % 2 ^ s) + 4294967296 * (V / 2 ^ s) := by
    conv => lhs; rw [← Nat.mod_add_div V (2 ^ s), Nat.mul_add]
    congr 1
    rw [← Nat.mul_assoc, Nat.mul_comm (2 ^ (32 - s)), ← e]
  rw [h1]; omega
theorem ajm {v : Sl} {ys : List Nat} {B s : Nat} {h : Heap} {K0 : Unit → Heap → Prop} (ho : OwnI .u32 B h v ys) (hl : Lim 4294967296 ys) (hlen : ys.length ≤ 2200000) (hs0 : 0 < s) (hs : s < 32)
    (K : ∀ h' zs, OwnI .u32 B h' v zs → Lim 4294967296 zs → val 4294967296 zs = val 4294967296 ys / 2 ^ s → zs.length = ys.length → Keep v.blk h h' → K0 () h') :
    loop (fun (s0u2 : Int) h0u4 (K0u2 : Int → Heap → Prop) =>
       iteB (decide (s0u2 < ((v.len : Nat) : Int))) (
        seq (fun (K0u3 : Unit → Heap → Prop) =>
         idxS v s0u2 1 fun a_2 =>
         Lift.load (Value.int .u32) a_2 h0u4 fun v_5 =>
         (0 ≤ (s : Int)) ∧
         idxS v s0u2 1 fun a_3 =>
         Lift.amL a_3 (Value.int .u32 (Int.fdiv v_5 (2 ^ (min (Int.toNat (s : Int)) (IntKind.bits .u32))))) h0u4 fun h0u6 =>
         iteB (decide ((IntKind.wrap .i64 (s0u2 + 1)) < ((v.len : Nat) : Int))) (
          idxS v s0u2 1 fun a_4 =>
          Lift.load (Value.int .u32) a_4 h0u6 fun v_6 =>
          idxS v (IntKind.wrap .i64 (s0u2 + 1)) 1 fun a_5 =>
          Lift.load (Value.int .u32) a_5 h0u6 fun v_7 =>
          (0 ≤ (IntKind.wrap .i64 (32 - (s : Int)))) ∧
          idxS v s0u2 1 fun a_6 =>
          Lift.amL a_6 (Value.int .u32 (IntKind.wrap .u32 (((BitVec.ofInt (IntKind.bits .u32) v_6 ||| BitVec.ofInt (IntKind.bits .u32) (IntKind.wrap .u32 (v_7 * 2 ^ (min (Int.toNat (IntKind.wrap .i64 (32 - (s : Int)))) (IntKind.bits .u32))))).toNat : Int)))) h0u6 fun h0u7 =>
          K0u3 () h0u7
         ) (
          K0u3 () h0u6
         )
        ) (fun t0u1 h0u5 =>
         K0u2 (IntKind.wrap .i64 (s0u2 + 1)) h0u5
        )
       ) (
        K0 () h0u4
       )
      ) 0 h := by
  have lv := ho.r.len
  have hp : 0 < 2 ^ s := Nat.pow_pos (by decide)
  refine loop.inv (fun t h' => ∃ (i : Nat) (zs : List Nat), t = (i : Int) ∧ i ≤ ys.length ∧ OwnI .u32 B h' v zs ∧ Lim 4294967296 zs ∧ zs.length = ys.length ∧ zs.drop i = ys.drop i ∧
      val 4294967296 (zs.take i) + 4294967296 ^ i * (val 4294967296 (ys.drop i) / 2 ^ s) = val 4294967296 ys / 2 ^ s ∧ Keep v.blk h h') (fun t _ => ys.length - t.toNat)
    ⟨0, ys, rfl, by omega, ho, hl, rfl, rfl, by simp [val], Keep.refl _ _⟩ ?_
  rintro t h1 ⟨i, zs, rfl, hi, hoz, hlz, hzl, hdr, hval, hk⟩
  refine ⟨fun hlt => ?_, fun hge => ?_⟩
  · simp only [decide_eq_true_eq] at hlt
    have hiy : i < ys.length := by omega
    have hiz : i < zs.length := by omega
    have hd1 := kB (b := 4294967296) ys i hiy
    have hyi := hl.get hiy
    have hzy : zs[i] = ys[i] := by
      have h1 := List.drop_eq_getElem_cons hiz
      have h2 := List.drop_eq_getElem_cons hiy
      rw [hdr, h2] at h1
      simp only [List.cons.injEq] at h1
      exact h1.1.symm
    have hdr1 : zs.drop (i + 1) = ys.drop (i + 1) := by
      have h1 := List.drop_eq_getElem_cons hiz
      have h2 := List.drop_eq_getElem_cons hiy
      rw [hdr, h2] at h1
      simp only [List.cons.injEq] at h1
      exact h1.2.symm
    have fin : ∀ h2 (z : Nat), z < 4294967296 → z = ys[i] / 2 ^ s + 2 ^ (32 - s) * (val 4294967296 (ys.drop (i + 1)) % 2 ^ s) → OwnI .u32 B h2 v (zs.set i z) → Keep v.blk h h2 →
        (fun t h' => (∃ (i : Nat) (zs : List Nat), t = (i : Int) ∧ i ≤ ys.length ∧ OwnI .u32 B h' v zs ∧ Lim 4294967296 zs ∧ zs.length = ys.length ∧ zs.drop i = ys.drop i ∧
      val 4294967296 (zs.take i) + 4294967296 ^ i * (val 4294967296 (ys.drop i) / 2 ^ s) = val 4294967296 ys / 2 ^ s ∧ Keep v.blk h h') ∧ ys.length - t.toNat < ys.length - (i : Int).toNat) (IntKind.wrap .i64 ((i : Int) + 1)) h2 := by
      intro h2 z hz hze ho2 hk2
      rw [w64 (by omega) (by omega)]
      refine ⟨⟨i + 1, _, by omega, by omega, ho2, hlz.set _ hz, by simpa using hzl, ?_, ?_, hk2⟩, by omega⟩
      · rw [List.drop_set_of_lt (by omega), hdr1]
      · have hlt3 : i < (zs.set i z).length := by simpa using hiz
        rw [fZ _ i hlt3, List.take_set_of_le (Nat.le_refl _), List.getElem_set_self, Nat.pow_succ, ← hval, hd1, ak9 hs, ← hze, Nat.mul_assoc, Nat.mul_add]
        omega
    refine seq.dup ?_
    refine RI.ld hoz.r (j := i) rfl hiz ⟨by omega, ?_⟩
    rw [hzy]
    have e1 : Int.fdiv ((ys[i] : Nat) : Int) (2 ^ (min (Int.toNat (s : Int)) (IntKind.bits .u32))) = ((ys[i] / 2 ^ s : Nat) : Int) := by
      have : min (Int.toNat (s : Int)) (IntKind.bits .u32) = s := by
        rw [Int.toNat_natCast]; exact Nat.min_eq_left (by show s ≤ 32; omega)
      rw [this, Int.fdiv_eq_ediv_of_nonneg _ (by exact_mod_cast Nat.zero_le (2 ^ s))]
      simp
    rw [e1]
    refine Own.st hoz (j := i) (m := ys[i] / 2 ^ s) rfl hiz rfl fun h2 ho2 hk2 _ => ?_
    rw [w64 (n := (i : Int) + 1) (by omega) (by omega)]
    have hdiv : ys[i] / 2 ^ s < 2 ^ (32 - s) := by
      rw [Nat.div_lt_iff_lt_mul hp, ← Nat.pow_add, show 32 - s + s = 32 from by omega]; omega
    have h31 : (2 : Nat) ^ (32 - s) ≤ 2147483648 := by
      have : (2 : Nat) ^ (32 - s) ≤ 2 ^ 31 := Nat.pow_le_pow_right (by decide) (by omega)
      omega
    refine ⟨fun hlt2 => ?_, fun hge2 => ?_⟩
    · simp only [decide_eq_true_eq] at hlt2
      have hi1 : i + 1 < ys.length := by omega
      have hlen2 : (zs.set i (ys[i] / 2 ^ s)).length = ys.length := by simpa using hzl
      refine RI.ld ho2.r (j := i) rfl (by omega) (RI.ld ho2.r (j := i + 1) (by omega) (by omega) ?_)
      have hz1 : (zs.set i (ys[i] / 2 ^ s))[i + 1]'(by omega) = ys[i + 1] := by
        rw [List.getElem_set_ne (by omega)]
        have h1 : i + 1 < zs.length := by omega
        have := List.drop_eq_getElem_cons h1
        have h2 := List.drop_eq_getElem_cons hi1
        rw [hdr1, h2] at this
        simp only [List.cons.injEq] at this
        exact this.1.symm
      rw [hz1, List.getElem_set_self]
      have hd2 := kB (b := 4294967296) ys (i + 1) hi1
      have hy1 := hl.get hi1
      generalize ys[i + 1] = y1 at *
      rw [w64 (n := 32 - (s : Int)) (by omega) (by omega)]
      refine ⟨by omega, ?_⟩
      have e2 : IntKind.wrap .u32 ((y1 : Int) * 2 ^ (min (Int.toNat (32 - (s : Int))) (IntKind.bits .u32))) = ((2 ^ (32 - s) * (y1 % 2 ^ s) : Nat) : Int) := by
        have : min (Int.toNat (32 - (s : Int))) (IntKind.bits .u32) = 32 - s := by
          have : Int.toNat (32 - (s : Int)) = 32 - s := by omega
          rw [this]; exact Nat.min_eq_left (by show 32 - s ≤ 32; omega)
        rw [this, vA]
        have e3 : ((y1 : Int) * 2 ^ (32 - s)) = ((y1 * 2 ^ (32 - s) : Nat) : Int) := by simp
        have e4 : (4294967296 : Int) = ((2 ^ s * 2 ^ (32 - s) : Nat) : Int) := by
          rw [← Nat.pow_add, show s + (32 - s) = 32 from by omega]; rfl
        rw [e3, e4, ← Int.natCast_emod, Nat.mul_mod_mul_right, Nat.mul_comm]
      have hm2 : 2 ^ (32 - s) * (y1 % 2 ^ s) ≤ 2 ^ (32 - s) * (2 ^ s - 1) := Nat.mul_le_mul_left _ (by have := Nat.mod_lt y1 hp; omega)
      have hm3 : 2 ^ (32 - s) * (2 ^ s - 1) + 2 ^ (32 - s) = 4294967296 := by
        have e7 : 2 ^ s - 1 + 1 = 2 ^ s := by omega
        have e8 : 2 ^ (32 - s) * (2 ^ s - 1) + 2 ^ (32 - s) = 2 ^ (32 - s) * (2 ^ s - 1 + 1) := by rw [Nat.mul_add, Nat.mul_one]
        rw [e8, e7, ← Nat.pow_add, show 32 - s + s = 32 from by omega]
      have e5 : (ys[i] / 2 ^ s) ||| (2 ^ (32 - s) * (y1 % 2 ^ s)) = ys[i] / 2 ^ s + 2 ^ (32 - s) * (y1 % 2 ^ s) := by
        rw [Nat.or_comm, Nat.mul_comm (2 ^ (32 - s)), afK hdiv]; omega
      have e6 : val 4294967296 (ys.drop (i + 1)) % 2 ^ s = y1 % 2 ^ s := by
        rw [hd2]
        have e4 : (4294967296 : Nat) = 2 ^ s * 2 ^ (32 - s) := by
          rw [← Nat.pow_add, show s + (32 - s) = 32 from by omega]
        rw [e4, Nat.mul_assoc, Nat.add_mul_mod_self_left]
      have hm4 : 2 ^ (32 - s) * (y1 % 2 ^ s) + 2 ^ (32 - s) ≤ 4294967296 := by rw [← hm3]; exact Nat.add_le_add_right hm2 _
      have b1 : 2 ^ (32 - s) * (y1 % 2 ^ s) < 4294967296 := Nat.lt_of_lt_of_le (Nat.lt_add_of_pos_right (Nat.pow_pos (by decide))) hm4
      have b2 : ys[i] / 2 ^ s + 2 ^ (32 - s) * (y1 % 2 ^ s) < 4294967296 := Nat.lt_of_lt_of_le (Nat.add_lt_add_right hdiv _) (by rw [Nat.add_comm]; exact hm4)
      have b3 : ys[i] / 2 ^ s < 4294967296 := Nat.lt_of_le_of_lt (Nat.le_add_right _ _) b2
      rw [e2, or32 b3 b1, e5, wu32 (Int.natCast_nonneg _) (Int.ofNat_lt.2 b2)]
      refine Own.st ho2 (j := i) (m := ys[i] / 2 ^ s + 2 ^ (32 - s) * (y1 % 2 ^ s)) rfl (by omega) rfl fun h3 ho3 hk3 _ => ?_
      rw [List.set_set] at ho3
      have := fin h3 _ b2 (by rw [e6]) ho3 ((hk.trans hk2).trans hk3)
      rwa [w64 (n := (i : Int) + 1) (by omega) (by omega)] at this
    · simp only [decide_eq_false_iff_not] at hge2
      have hi1 : i + 1 = ys.length := by omega
      have : ys.drop (i + 1) = [] := List.drop_eq_nil_of_le (by omega)
      have := fin h2 (ys[i] / 2 ^ s) (by omega) (by rw [this, aff]; simp) ho2 (hk.trans hk2)
      rwa [w64 (n := (i : Int) + 1) (by omega) (by omega)] at this
  · simp only [decide_eq_false_iff_not] at hge
    have hi2 : i = ys.length := by omega
    subst hi2
    rw [List.drop_length, aff, Nat.zero_div, Nat.mul_zero, Nat.add_zero, ← hzl, List.take_length] at hval
    exact K h1 zs hoz hlz hval hzl hk
end Go.Sh

namespace Go.Sh
open Go Go.Lift
theorem tR {x : Sl} {n : Nat} {h : Heap} {Q : (Sl × Int) → Heap → Prop} (ht : Tab h) (hx : NN h x n) (hn : n ≠ 0) (hxl : x.len ≤ 2200000)
    (K : ∀ r (k m : Nat) h', n = 2 ^ k * (2 * m + 1) → NN h' r (2 * m + 1) → Ext h h' → r.len ≤ x.len → k < 32 * x.len → Q (r, (k : Int)) h') : mQ x h Q := by
  obtain ⟨xs, x1, x2, x3, x4, x5⟩ := hx
  have lx := x1.len
  unfold mQ
  have hne : xs ≠ [] := fun h => by subst h; exact hn x4.symm
  have hlpos : 0 < xs.length := List.length_pos_iff.2 hne
  refine loop.inv (fun t h' => h' = h ∧ ∃ j : Nat, t = ((32 * j : Nat) : Int) ∧ j < xs.length ∧ val 4294967296 (xs.take j) = 0) (fun t _ => 32 * xs.length - t.toNat) ⟨rfl, 0, rfl, hlpos, rfl⟩ ?_
  rintro t h' ⟨rfl, j, rfl, hj, hz⟩
  have e1 : Int.tdiv ((32 * j : Nat) : Int) 32 = (j : Int) := by
    have : Int.tdiv ((32 * j : Nat) : Int) 32 = ((32 * j / 32 : Nat) : Int) := rfl
    rw [this, Nat.mul_div_cancel_left _ (by decide)]
  rw [e1, w64 (n := (j : Int)) (by omega) (by omega)]
  have hts := fZ (b := 4294967296) xs j hj
  have hxj := x2.get hj
  refine RI.ld x1 (j := j) rfl hj ⟨fun h0 => ?_, fun h0 => ?_⟩
  · simp only [beq_iff_eq] at h0
    have h0' : xs[j] = 0 := by omega
    have hz2 : val 4294967296 (xs.take (j + 1)) = 0 := by rw [hts, hz, h0']; simp
    have hj2 : j + 1 < xs.length := by
      by_cases h : j + 1 < xs.length
      · exact h
      · rw [List.take_of_length_le (by omega), x4] at hz2
        exact absurd hz2 hn
    rintro k rfl
    rw [w64 (by omega) (by omega)]
    exact ⟨⟨rfl, j + 1, by omega, hj2, hz2⟩, by omega⟩
  · simp only [beq_eq_false_iff_ne, ne_eq] at h0
    have hxj0 : 0 < xs[j] := by omega
    refine RI.ld x1 (j := j) rfl hj ?_
    refine alq ht hxj0 hxj fun t m ht32 htm => ?_
    have hd := kB (b := 4294967296) xs j hj
    have htot : n = 4294967296 ^ j * val 4294967296 (xs.drop j) := by
      have := iV (b := 4294967296) xs j
      rw [hz, Nat.min_eq_left (by omega), Nat.zero_add, x4] at this
      exact this
    have hlim2 : Lim 4294967296 (xs.drop j) := fun z hz => x2 z (List.mem_of_mem_drop hz)
    have hodd : val 4294967296 (xs.drop j) = 2 ^ t * (2 * (m + 2 ^ (31 - t) * val 4294967296 (xs.drop (j + 1))) + 1) := by
      rw [hd, htm]
      have e : (4294967296 : Nat) = 2 ^ t * (2 * 2 ^ (31 - t)) := by
        rw [Nat.mul_comm 2, ← Nat.pow_succ, ← Nat.pow_add, show t + (31 - t + 1) = 32 from by omega]
      generalize val 4294967296 (xs.drop (j + 1)) = V
      conv => lhs; rw [e, Nat.mul_assoc, ← Nat.mul_add]
      congr 1
      rw [Nat.mul_add, Nat.mul_assoc]; omega
    generalize m + 2 ^ (31 - t) * val 4294967296 (xs.drop (j + 1)) = M at hodd
    have htot2 : n = 2 ^ (32 * j + t) * (2 * M + 1) := by
      rw [htot, hodd, ← Nat.mul_assoc, Nat.pow_add, Nat.pow_mul]
    rintro k1 rfl
    rw [w64 (n := ((32 * j : Nat) : Int) + (t : Int)) (by omega) (by omega)]
    have ek : ((32 * j : Nat) : Int) + (t : Int) = ((32 * j + t : Nat) : Int) := by simp
    rw [ek]
    have e2 : Int.tdiv ((32 * j + t : Nat) : Int) 32 = (j : Int) := by
      have : Int.tdiv ((32 * j + t : Nat) : Int) 32 = (((32 * j + t) / 32 : Nat) : Int) := rfl
      rw [this]; omega
    have e3 : Int.tmod ((32 * j + t : Nat) : Int) 32 = (t : Int) := by
      have : Int.tmod ((32 * j + t : Nat) : Int) 32 = (((32 * j + t) % 32 : Nat) : Int) := rfl
      rw [this]; omega
    rw [e2, e3, w64 (n := (j : Int)) (by omega) (by omega)]
    refine x1.drop rfl (Nat.le_of_lt hj) fun s' hs' _ => ?_
    have hdl : (xs.drop j).length ≤ xs.length := by simp
    refine aa6 hs' (by omega) fun v h1 hov he1 => ?_
    refine seq.cut (fun _ h2 => ∃ zs, OwnI .u32 h'.size h2 v zs ∧ Lim 4294967296 zs ∧ val 4294967296 zs = 2 * M + 1 ∧ zs.length = (xs.drop j).length ∧ Ext h' h2) ?_ ?_
    · rintro s0 rfl
      refine ⟨fun hpos => ?_, fun hnp => ?_⟩
      · simp only [gt_iff_lt, decide_eq_true_eq] at hpos
        refine ajm (K0 := fun _ h2 => ∃ zs, OwnI .u32 h'.size h2 v zs ∧ Lim 4294967296 zs ∧ val 4294967296 zs = 2 * M + 1 ∧ zs.length = (xs.drop j).length ∧ Ext h' h2) hov hlim2 (by omega) (by omega) ht32 fun h2 zs hoz hlz hvz hzl hk => ⟨zs, hoz, hlz, ?_, hzl, Keep.own he1 hov (Nat.le_refl _) hk⟩
        rw [hvz, hodd, Nat.mul_div_cancel_left _ (Nat.pow_pos (by decide))]
      · simp only [gt_iff_lt, decide_eq_false_iff_not] at hnp
        have ht0 : t = 0 := by omega
        refine ⟨_, hov, hlim2, ?_, rfl, he1⟩
        rw [hodd, ht0]; simp
    · rintro _ h2 ⟨zs, hoz, hlz, hvz, hzl, he2⟩
      have hvl := hoz.r.len
      refine gu (n := 2 * M + 1) ⟨zs, hoz.r, hlz, hvz, by omega⟩ fun r hr _ hrl => ?_
      exact K r (32 * j + t) M h2 htot2 hr he2 (by omega) (by omega)
theorem afi {x : Sl} {n k : Nat} {h : Heap} {Q : Sl → Heap → Prop} (hx : NV h x n) (hxl : x.len ≤ 1090000) (hk : k ≤ 34000000)
    (K : ∀ r h', NN h' r (2 ^ k * n) → Ext h h' → (∀ b, r.blk = some b → h.size ≤ b) → Q r h') : qy x (k : Int) h Q := by
  unfold qy
  have e2 : Int.tdiv (k : Int) 32 = ((k / 32 : Nat) : Int) := rfl
  have e3 : Int.tmod (k : Int) 32 = ((k % 32 : Nat) : Int) := rfl
  rw [e2, e3, w64 (n := ((k / 32 : Nat) : Int)) (by omega) (by omega)]
  rintro t8 rfl
  rw [w64 (by omega) (by omega)]
  refine aeQ (m := k / 32 + 1) (by omega) (by omega) fun v h1 hov he1 hvl => ⟨by omega, ?_⟩
  have hp : 2 ^ (k % 32) < 4294967296 := by
    have : (2 : Nat) ^ (k % 32) ≤ 2 ^ 31 := Nat.pow_le_pow_right (by decide) (by omega)
    omega
  have e4 : IntKind.wrap .u32 (1 * 2 ^ (min (Int.toNat ((k % 32 : Nat) : Int)) (IntKind.bits .u32))) = ((2 ^ (k % 32) : Nat) : Int) := by
    have : min (Int.toNat ((k % 32 : Nat) : Int)) (IntKind.bits .u32) = k % 32 := by
      rw [Int.toNat_natCast]; exact Nat.min_eq_left (by show k % 32 ≤ 32; omega)
    rw [this, Int.one_mul, vA]
    have : (2 : Int) ^ (k % 32) = ((2 ^ (k % 32) : Nat) : Int) := by simp
    rw [this]
    generalize 2 ^ (k % 32) = p at *
    omega
  rw [e4]
  refine Own.st hov (j := k / 32) (m := 2 ^ (k % 32)) rfl (by simp) rfl fun h2 ho2 hk2 _ => ?_
  have he2 : Ext h h2 := Keep.own he1 hov (Nat.le_refl _) hk2
  have hl2 : Lim 4294967296 ((List.replicate (k / 32 + 1) 0).set (k / 32) (2 ^ (k % 32))) := Lim.set (fun z hz => by rw [List.eq_of_mem_replicate hz]; decide) _ hp
  have hv2 : val 4294967296 ((List.replicate (k / 32 + 1) 0).set (k / 32) (2 ^ (k % 32))) = 2 ^ k := by
    have h1 := yJ (b := 4294967296) (List.replicate (k / 32 + 1) 0) (k / 32) (by simp) (2 ^ (k % 32))
    rw [jh, List.getElem_replicate, Nat.mul_zero, Nat.add_zero, Nat.zero_add] at h1
    rw [h1]
    have : (4294967296 : Nat) = 2 ^ 32 := rfl
    rw [this, ← Nat.pow_mul, ← Nat.pow_add, Nat.div_add_mod]
  refine aaV (hx.ext he2) ⟨_, ho2.r, hl2, hv2, by simp; omega⟩ (by omega) (by omega) fun w h3 zs hoz hlz hvz hzl he3 => ?_
  have hwl := hoz.r.len
  refine gu (n := n * 2 ^ k) ⟨zs, hoz.r, hlz, hvz, by omega⟩ fun r hr hrb _ => ?_
  rw [Nat.mul_comm] at hr
  refine K r h3 hr (he2.trans he3) (fun b hb => ?_)
  rw [hrb] at hb
  have := (hoz.lt hb).1
  have := he2.size
  omega
end Go.Sh

namespace Go.Sh
open Go Go.Lift
theorem ad6 (a : Nat) : Nat.Coprime 2 (2 * a + 1) := by
  have h1 : Nat.gcd 2 (2 * a + 1) = Nat.gcd ((2 * a + 1) % 2) 2 := Nat.gcd_rec 2 (2 * a + 1)
  have h2 : (2 * a + 1) % 2 = 1 := by omega
  rw [h2] at h1
  exact h1.trans (Nat.gcd_one_left 2)
theorem q7 (k a b : Nat) : Nat.gcd (2 * a + 1) (2 ^ k * b) = Nat.gcd (2 * a + 1) b :=
  Nat.Coprime.gcd_mul_left_cancel_right b ((ad6 a).pow_left k)
theorem sT (k a b : Nat) : Nat.gcd (2 ^ k * b) (2 * a + 1) = Nat.gcd b (2 * a + 1) := by
  rw [Nat.gcd_comm, q7, Nat.gcd_comm]
theorem ajI (k l a b : Nat) : Nat.gcd (2 ^ k * (2 * a + 1)) (2 ^ l * (2 * b + 1)) = 2 ^ (min k l) * Nat.gcd (2 * a + 1) (2 * b + 1) := by
  by_cases h : k ≤ l
  · have : 2 ^ l * (2 * b + 1) = 2 ^ k * (2 ^ (l - k) * (2 * b + 1)) := by
      rw [← Nat.mul_assoc, ← Nat.pow_add, show k + (l - k) = l from by omega]
    rw [this, Nat.gcd_mul_left, q7, Nat.min_eq_left h]
  · have : 2 ^ k * (2 * a + 1) = 2 ^ l * (2 ^ (k - l) * (2 * a + 1)) := by
      rw [← Nat.mul_assoc, ← Nat.pow_add, show l + (k - l) = k from by omega]
    rw [this, Nat.gcd_mul_left, sT, Nat.min_eq_right (by omega)]
theorem ad2 {x y : Sl} {m n : Nat} {h : Heap} {Q : Sl → Heap → Prop} (ht : Tab h) (hx : NV h x m) (hy : NV h y n) (hxl : x.len ≤ 1050000) (hyl : y.len ≤ 1050000)
    (K : ∀ r h', NN h' r (Nat.gcd m n) → Ext h h' → (∀ b, r.blk = some b → (x.blk = some b ∧ Nat.gcd m n = m) ∨ (y.blk = some b ∧ Nat.gcd m n = n) ∨ h.size ≤ b) → Q r h') : qk x y h Q := by
  unfold qk
  refine gu hx fun x' hx' hxb hxl' => gu hy fun y' hy' hyb hyl' => ?_
  refine ⟨fun h0 => ?_, fun h0 => ⟨fun h1 => ?_, fun h1 => ?_⟩⟩
  · simp only [beq_iff_eq] at h0
    have hm : m = 0 := hx'.len_zero.1 (by omega)
    subst hm
    exact K y' h (by rw [Nat.gcd_zero_left]; exact hy') (Keep.refl _ _) (fun b hb => .inr (.inl ⟨by rw [← hyb]; exact hb, Nat.gcd_zero_left _⟩))
  · simp only [beq_iff_eq] at h1
    have hn : n = 0 := hy'.len_zero.1 (by omega)
    subst hn
    exact K x' h (by rw [Nat.gcd_zero_right]; exact hx') (Keep.refl _ _) (fun b hb => .inl ⟨by rw [← hxb]; exact hb, Nat.gcd_zero_right _⟩)
  simp only [beq_eq_false_iff_ne, ne_eq] at h0 h1
  have hm0 : m ≠ 0 := fun h => h0 (by have := hx'.len_zero.2 h; omega)
  have hn0 : n ≠ 0 := fun h => h1 (by have := hy'.len_zero.2 h; omega)
  refine seq.cut (fun _ h' => h' = h) ?_ ?_
  · refine qe hx'.nv fun v hv hvm => ⟨fun hs => ?_, fun _ => rfl⟩
    refine qe hy'.nv fun w hw hwn => ⟨fun hs2 => ?_, fun _ => rfl⟩
    have hvm := hvm (by simpa using hs)
    have hwn := hwn (by simpa using hs2)
    subst hvm hwn
    refine loop.inv (fun s h' => h' = h ∧ ∃ a b : Nat, s = ((a : Int), (b : Int)) ∧ a < 18446744073709551616 ∧ b < 18446744073709551616 ∧ Nat.gcd a b = Nat.gcd v w) (fun s _ => s.2.toNat) ⟨rfl, v, w, rfl, hv, hw, rfl⟩ ?_
    rintro s h' ⟨rfl, a, b, rfl, ha, hb, hg⟩
    dsimp only
    refine ⟨fun hne => ?_, fun he => ?_⟩
    · simp only [bne_iff_ne, ne_eq] at hne
      refine ⟨hne, ?_⟩
      have e : Int.tmod (a : Int) (b : Int) = ((a % b : Nat) : Int) := rfl
      rintro m' rfl
      rw [e]
      have hb0 : 0 < b := by omega
      have hlt := Nat.mod_lt a hb0
      refine ⟨⟨rfl, b, a % b, rfl, hb, by omega, ?_⟩, by simp only [Int.toNat_natCast]; exact hlt⟩
      rw [← hg, Nat.gcd_comm a b, Nat.gcd_rec b a, Nat.gcd_comm]
    · simp only [bne_eq_false_iff_eq] at he
      have hb0 : b = 0 := by omega
      subst hb0
      rw [Nat.gcd_zero_right] at hg
      subst hg
      refine abV rfl ha fun r h2 hr he2 hrb => K r h2 hr he2 (fun b hb => .inr (.inr (hrb b hb).1))
  · rintro _ h' rfl
    refine tR ht hx' hm0 (by omega) fun p k1 a h1 hm hp he1 hpl hk1 => ?_
    refine tR (ht.ext he1) (hy'.ext he1) hn0 (by omega) fun q k2 b h2 hn hq he2 hql hk2 => ?_
    have hp := hp.ext he2
    dsimp only
    have hgcd : Nat.gcd m n = 2 ^ (min k1 k2) * Nat.gcd (2 * a + 1) (2 * b + 1) := by rw [hm, hn, ajI]
    have hmin : (if (k2 : Int) < (k1 : Int) then (k2 : Int) else (k1 : Int)) = ((min k1 k2 : Nat) : Int) := by split <;> omega
    rw [hmin]
    have hk : min k1 k2 ≤ 34000000 := by omega
    generalize min k1 k2 = kk at *
    clear hm hn hk1 hk2 hmin
    refine loop.inv (fun s h3 => ∃ c d : Nat, NN h3 s.1 (2 * c + 1) ∧ NN h3 s.2 (2 * d + 1) ∧ Nat.gcd (2 * c + 1) (2 * d + 1) = Nat.gcd (2 * a + 1) (2 * b + 1) ∧ s.1.len ≤ 1050000 ∧ s.2.len ≤ 1050000 ∧ Ext h' h3) (fun s h3 => ajv h3 s.1 + ajv h3 s.2)
      ⟨a, b, hp, hq, rfl, by dsimp only; omega, by dsimp only; omega, he1.trans he2⟩ ?_
    rintro ⟨s1, s2⟩ h3 ⟨c, d, hc, hd, hg, hl1, hl2, he3⟩
    simp only at hc hd hl1 hl2
    dsimp only
    rw [wB hc, wB hd]
    refine rW hc.nv hd.nv ⟨fun hne => ?_, fun heq => ?_⟩
    · have hcd : c ≠ d := fun h => by
        subst h
        simp [cmpI] at hne
      refine seq.cut (fun t h4 => h4 = h3 ∧ ∃ e f : Nat, f < e ∧ e + f = c + d ∧ NN h3 t.1 (2 * e + 1) ∧ NN h3 t.2 (2 * f + 1) ∧ Nat.gcd (2 * e + 1) (2 * f + 1) = Nat.gcd (2 * a + 1) (2 * b + 1) ∧ t.1.len ≤ 1050000 ∧ t.2.len ≤ 1050000) ?_ ?_
      · refine rW hc.nv hd.nv ⟨fun hlt => ?_, fun hge => ?_⟩
        · simp only [decide_eq_true_eq] at hlt
          have hlt' : c < d := by
            unfold cmpI at hlt
            split at hlt
            · omega
            · split at hlt <;> simp at hlt
          exact ⟨rfl, d, c, hlt', by omega, hd, hc, by rw [Nat.gcd_comm]; exact hg, hl2, hl1⟩
        · simp only [decide_eq_false_iff_not] at hge
          have hge' : d < c := by
            unfold cmpI at hge
            split at hge
            · simp at hge
            · omega
          exact ⟨rfl, c, d, hge', by omega, hc, hd, hg, hl1, hl2⟩
      · rintro ⟨t1, t2⟩ h4 ⟨rfl, e, f, hfe, hsum, he, hf, hg2, hle, hlf⟩
        simp only at he hf hle hlf
        dsimp only
        refine tZ he.nv hf.nv (by omega) (by omega) fun w h5 hw he5 _ hwl => ?_
        have hdiff : 2 * e + 1 - (2 * f + 1) = 2 * (e - f) := by omega
        rw [hdiff] at hw
        refine tR (ht.ext (he3.trans he5)) hw (by omega) (by omega) fun z k3 g h6 hz hzn he6 hzl hk3 => ?_
        have hf6 := (hf.ext he5).ext he6
        have hz1 : 2 * g + 1 ≤ 2 * (e - f) := by rw [hz]; exact Nat.le_mul_of_pos_left _ (Nat.pow_pos (by decide))
        refine ⟨⟨g, f, hzn, hf6, ?_, by dsimp only; omega, hlf, (he3.trans he5).trans he6⟩, ?_⟩
        · rw [← hg2, ← sT k3, ← hz]
          have : 2 * e + 1 = 2 * (e - f) + (2 * f + 1) := by omega
          rw [this, Nat.gcd_add_self_left]
        · rw [wB hzn, wB hf6]; omega
    · have hcd : c = d := by
        unfold cmpI at heq
        split at heq
        · simp at heq
        · split at heq
          · omega
          · simp at heq
      subst hcd
      rw [Nat.gcd_self] at hg
      refine afi hc.nv (by omega) hk fun r h4 hr he4 hrb => K r h4 (by rw [hgcd, ← hg]; exact hr) (he3.trans he4) (fun b hb => .inr (.inr ?_))
      have := hrb b hb
      have := he3.size
      omega
end Go.Sh

namespace Go.Sh
open Go Go.Lift
theorem ajt {a : Addr} {lim : Nat} {ov : Bool} {x y : Sl} {m n : Nat} {h : Heap} {Q : Sl → Heap → Prop} (ht : Tab h) (hb : Bench h a lim ov) (hx : NV h x m) (hy : NV h y n) (hxl : x.len ≤ 1050000) (hyl : y.len ≤ 1050000)
    (hxb : x.blk = some a.block → m = 0) (hyb : y.blk = some a.block → n = 0)
    (K : ∀ r h', Bench h' a lim (ov || decide (lim < nl (Nat.gcd m n))) → Keep (some a.block) h h' → ((ov || decide (lim < nl (Nat.gcd m n))) = false → NN h' r (Nat.gcd m n)) → ((ov || decide (lim < nl (Nat.gcd m n))) = true → r = Sl.nil) → (∀ b, r.blk = some b → h.size ≤ b) → Q r h') : gX (some a) x y h Q := by
  unfold gX
  refine ad2 ht hx hy hxl hyl fun v h1 hv he hvb => ?_
  refine qt (hb.ext he) hv.nv (fun hbl => ?_) fun r h2 hb2 hk h3 h4 h5 => K r h2 hb2 ((Keep.of_ext he).trans hk) h3 h4 (fun b hbb => Nat.le_trans he.size (h5 b hbb))
  rcases hvb _ hbl with ⟨h1, h2⟩ | ⟨h1, h2⟩ | h1
  · rw [h2]; exact hxb h1
  · rw [h2]; exact hyb h1
  · have := hb.lt; omega
theorem ajx {a : Addr} {lim : Nat} {ov : Bool} {x y : Sl} {m n : Nat} {h : Heap} {Q : Sl → Heap → Prop} (hb : Bench h a lim ov) (hx : NV h x m) (hy : NV h y n) (hxl : x.len ≤ 1048000)
    (K1 : m < n → Q Sl.nil h)
    (K : n ≤ m → ∀ r h', Bench h' a lim (ov || decide (lim < nl (m - n))) → Keep (some a.block) h h' → ((ov || decide (lim < nl (m - n))) = false → NN h' r (m - n)) → ((ov || decide (lim < nl (m - n))) = true → r = Sl.nil) → (∀ b, r.blk = some b → h.size ≤ b) → Q r h') : gR (some a) x y h Q := by
  unfold gR
  refine rW hx hy ⟨fun hlt => ?_, fun hge => ?_⟩
  · simp only [decide_eq_true_eq] at hlt
    refine K1 ?_
    unfold cmpI at hlt
    split at hlt
    · assumption
    · split at hlt <;> simp at hlt
  · simp only [decide_eq_false_iff_not] at hge
    have hle : n ≤ m := by
      unfold cmpI at hge
      split at hge
      · simp at hge
      · omega
    refine gu hy fun y' hy' _ _ => ?_
    refine tZ hx hy'.nv (by omega) hle fun v h1 hv he hvb _ => ?_
    refine qt (hb.ext he) hv.nv (fun hbl => ?_) fun r h2 hb2 hk h3 h4 h5 => K hle r h2 hb2 ((Keep.of_ext he).trans hk) h3 h4 (fun b hbb => Nat.le_trans he.size (h5 b hbb))
    have := hvb _ hbl
    have := hb.lt
    omega
theorem ai9 {a : Addr} {lim : Nat} {ov : Bool} {x y : Sl} {m n : Nat} {h : Heap} {Q : (Sl × Sl) → Heap → Prop} (hb : Bench h a lim ov) (hx : NV h x m) (hy : NV h y n) (hxl : x.len ≤ 30000) (hyl : y.len ≤ 30000)
    (K1 : n = 0 → Q (Sl.nil, Sl.nil) h)
    (K : n ≠ 0 → ∀ q r h' ov', ov' = (ov || decide (lim < nl (m / n)) || decide (lim < nl (m % n))) → Bench h' a lim ov' → Keep (some a.block) h h' → (ov' = false → NN h' q (m / n) ∧ NN h' r (m % n)) → (ov' = true → q = Sl.nil ∧ r = Sl.nil) → (∀ b, q.blk = some b ∨ r.blk = some b → h.size ≤ b) → Q (q, r) h') : gY (some a) x y h Q := by
  unfold gY
  refine gu hy fun y' hy' _ _ => ?_
  refine ⟨fun h0 => ?_, fun h0 => ?_⟩
  · simp only [beq_iff_eq] at h0
    exact K1 (hy'.len_zero.1 (by omega))
  · simp only [beq_eq_false_iff_ne, ne_eq] at h0
    have hn0 : n ≠ 0 := fun h => h0 (by have := hy'.len_zero.2 h; omega)
    refine afu hx hy hxl hyl hn0 fun q r h1 hq hr he hqb hrb => ?_
    dsimp only
    have hal := hb.lt
    have hq0 : q.blk ≠ some a.block := fun hbl => by have := (hqb _ hbl).1; omega
    have hr0 : r.blk ≠ some a.block := fun hbl => by have := hrb _ hbl; omega
    refine qt (hb.ext he) hq.nv (fun hbl => absurd hbl hq0) fun q2 h2 hb2 hk2 hf2 ht2 hs2 => ?_
    refine qt hb2 (hr.keep hk2 hr0).nv (fun hbl => absurd hbl hr0) fun r2 h3 hb3 hk3 hf3 ht3 hs3 => ?_
    have hkk : Keep (some a.block) h h3 := ((Keep.of_ext he).trans hk2).trans hk3
    have hsz := he.size
    have hsz2 := hk2.size
    refine ⟨a, rfl, _, hb3.over, fun hov => ?_, fun hov => ?_⟩
    · exact K hn0 Sl.nil Sl.nil h3 true hov.symm (by rw [hov] at hb3; exact hb3) hkk nofun (fun _ => ⟨rfl, rfl⟩) (fun b hb => by rcases hb with h | h <;> cases h)
    · have hov1 : (ov || decide (lim < nl (m / n))) = false := by
        cases hx : (ov || decide (lim < nl (m / n))) with
        | false => rfl
        | true => rw [hx] at hov; simp at hov
      have hq3 := (hf2 hov1).keep hk3 (fun hbl => by have := hs2 _ hbl; omega)
      refine K hn0 q2 r2 h3 false hov.symm (by rw [hov] at hb3; exact hb3) hkk (fun _ => ⟨hq3, hf3 hov⟩) nofun (fun b hb => ?_)
      rcases hb with h | h
      · have := hs2 b h; omega
      · have := hs3 b h; omega
end Go.Sh

namespace Go.Sh
open Go Go.Lift
end Go.Sh

namespace Go.Sh
open Go Go.Lift
def DN (h : Heap) (s : Sl) (n : Nat) : Prop := ∃ xs, RI .i64 h s xs ∧ Lim 10 xs ∧ Nrm xs ∧ val 10 xs = n
end Go.Sh

namespace Go.Sh
open Go Go.Lift
end Go.Sh

namespace Go.Sh
open Go Go.Lift
end Go.Sh

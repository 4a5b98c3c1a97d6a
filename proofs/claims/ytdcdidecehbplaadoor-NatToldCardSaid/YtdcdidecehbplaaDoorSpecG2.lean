/- Laws that the proof of this claim's statement leans on, each proved under the conditions that it states. -/
import Derived.Test.YtdcdidecehbplaaDoorSpecG1
set_option linter.unusedVariables false
set_option linter.unusedSimpArgs false
namespace Go.Lift
open Go
/-- The end of a slice. -/
theorem R.drop {α : Type} {toV : α → Value} {h : Heap} {s : Sl} {xs : List α} (hr : R toV h s xs) {i : Int} {j : Nat} {k : Sl → Prop} (hij : i = (j : Int)) (hj : j ≤ xs.length) (K : ∀ s', R toV h s' (xs.drop j) → s'.blk = s.blk → k s') : sliceOf s (some i) none none 1 k := by
  subst hij
  have hl := hr.len
  have hcap := hr.cap
  refine ⟨⟨by simp, by simp⟩, ⟨by simp, .inl rfl⟩, ⟨by simp, by simp; omega⟩, ?_⟩
  simp only [Option.getD_none, Option.getD_some, Int.toNat_natCast, Nat.mul_one]
  by_cases hcj : (s.cap : Int) = (j : Int)
  · rw [if_pos hcj]
    have hx : xs.drop j = [] := List.drop_eq_nil_of_le (by omega)
    refine K _ ?_ rfl
    rw [hx]
    exact R.nil_of (by dsimp only; omega) |> fun r => ⟨r.len, by dsimp only; omega, r.cells⟩
  · rw [if_neg hcj]
    cases ha : s.a with
    | none =>
      have hx : xs = [] := by
        have := hr.cells; rw [ha] at this
        simp only [cellsO?, Option.some.injEq] at this
        cases xs with
        | nil => rfl
        | cons x xs => simp at this
      subst hx
      refine K _ ?_ (by simp [Sl.blk, ha])
      have hj0 : j = 0 := by simpa using hj
      subst hj0
      simp only [List.length_nil] at hl
      exact ⟨by simpa using hl, by dsimp only; omega, by simp [cellsO?]⟩
    | some a =>
      refine K _ (R.mk' (by simp; omega) (by dsimp only; omega) (a.add j) rfl (fun i hi => ?_)) (by simp [Sl.blk, ha, addr_add_block])
      simp only [List.length_drop] at hi
      obtain ⟨a', ha', hc⟩ := hr.get (i := j + i) (by omega)
      rw [ha] at ha'; cases ha'
      rw [addr_add_add, hc, List.getElem_drop]
end Go.Lift
namespace Go.Sh
open Go Go.Lift

theorem shr_val {y V s : Nat} (hs : s < 32) : (y + 4294967296 * V) / 2 ^ s = y / 2 ^ s + 2 ^ (32 - s) * (V % 2 ^ s) + 4294967296 * (V / 2 ^ s) := by
  have hp : 0 < 2 ^ s := Nat.pow_pos (by decide)
  have e : (4294967296 : Nat) = 2 ^ s * 2 ^ (32 - s) := by
    rw [← Nat.pow_add, show s + (32 - s) = 32 from by omega]
  conv => lhs; rw [e, Nat.mul_assoc, Nat.add_mul_div_left _ _ hp]
  have h1 : 2 ^ (32 - s) * V = 2 ^ (32 - s) * (V % 2 ^ s) + 4294967296 * (V / 2 ^ s) := by
    conv => lhs; rw [← Nat.mod_add_div V (2 ^ s), Nat.mul_add]
    congr 1
    rw [← Nat.mul_assoc, Nat.mul_comm (2 ^ (32 - s)), ← e]
  rw [h1]; omega

/-- The loop that shifts. -/
theorem shr_loop {v : Sl} {ys : List Nat} {B s : Nat} {h : Heap} {K0 : Unit → Heap → Prop} (ho : OwnI .u32 B h v ys) (hl : Lim 4294967296 ys) (hlen : ys.length ≤ 1048576) (hs0 : 0 < s) (hs : s < 32)
    (K : ∀ h' zs, OwnI .u32 B h' v zs → Lim 4294967296 zs → val 4294967296 zs = val 4294967296 ys / 2 ^ s → zs.length = ys.length → Keep v.blk h h' → K0 () h') :
    loop (fun (s0u2 : Int) h0u4 (K0u2 : Int → Heap → Prop) =>
       iteB (decide (s0u2 < ((v.len : Nat) : Int))) (
        seq (fun (K0u3 : Unit → Heap → Prop) =>
         idxS v s0u2 1 fun a_2 =>
         Lift.load (Value.int .u32) a_2 h0u4 fun v_5 =>
         (0 ≤ (s : Int)) ∧
         idxS v s0u2 1 fun a_3 =>
         Lift.store a_3 (Value.int .u32 (Int.fdiv v_5 (2 ^ (min (Int.toNat (s : Int)) (IntKind.bits .u32))))) h0u4 fun h0u6 =>
         iteB (decide ((IntKind.wrap .i64 (s0u2 + 1)) < ((v.len : Nat) : Int))) (
          idxS v s0u2 1 fun a_4 =>
          Lift.load (Value.int .u32) a_4 h0u6 fun v_6 =>
          idxS v (IntKind.wrap .i64 (s0u2 + 1)) 1 fun a_5 =>
          Lift.load (Value.int .u32) a_5 h0u6 fun v_7 =>
          (0 ≤ (IntKind.wrap .i64 (32 - (s : Int)))) ∧
          idxS v s0u2 1 fun a_6 =>
          Lift.store a_6 (Value.int .u32 (IntKind.wrap .u32 (((BitVec.ofInt (IntKind.bits .u32) v_6 ||| BitVec.ofInt (IntKind.bits .u32) (IntKind.wrap .u32 (v_7 * 2 ^ (min (Int.toNat (IntKind.wrap .i64 (32 - (s : Int)))) (IntKind.bits .u32))))).toNat : Int)))) h0u6 fun h0u7 =>
          K0u3 () h0u7
         ) (
          K0u3 () h0u6
         )
        ) (fun t0u1 h0u5 =>
         K0u2 (IntKind.wrap .i64 (s0u2 + 1)) h0u5
        )
       ) (
        K0 () h0u4
       )
      ) 0 h := by
  have lv := ho.r.len
  have hp : 0 < 2 ^ s := Nat.pow_pos (by decide)
  refine loop.inv (fun t h' => ∃ (i : Nat) (zs : List Nat), t = (i : Int) ∧ i ≤ ys.length ∧ OwnI .u32 B h' v zs ∧ Lim 4294967296 zs ∧ zs.length = ys.length ∧ zs.drop i = ys.drop i ∧
      val 4294967296 (zs.take i) + 4294967296 ^ i * (val 4294967296 (ys.drop i) / 2 ^ s) = val 4294967296 ys / 2 ^ s ∧ Keep v.blk h h') (fun t _ => ys.length - t.toNat)
    ⟨0, ys, rfl, by omega, ho, hl, rfl, rfl, by simp [val], Keep.refl _ _⟩ ?_
  rintro t h1 ⟨i, zs, rfl, hi, hoz, hlz, hzl, hdr, hval, hk⟩
  refine ⟨fun hlt => ?_, fun hge => ?_⟩
  · simp only [decide_eq_true_eq] at hlt
    have hiy : i < ys.length := by omega
    have hiz : i < zs.length := by omega
    have hd1 := val_drop (b := 4294967296) ys i hiy
    have hyi := hl.get hiy
    have hzy : zs[i] = ys[i] := by
      have h1 := List.drop_eq_getElem_cons hiz
      have h2 := List.drop_eq_getElem_cons hiy
      rw [hdr, h2] at h1
      simp only [List.cons.injEq] at h1
      exact h1.1.symm
    have hdr1 : zs.drop (i + 1) = ys.drop (i + 1) := by
      have h1 := List.drop_eq_getElem_cons hiz
      have h2 := List.drop_eq_getElem_cons hiy
      rw [hdr, h2] at h1
      simp only [List.cons.injEq] at h1
      exact h1.2.symm
    -- the new one
    have fin : ∀ h2 (z : Nat), z < 4294967296 → z = ys[i] / 2 ^ s + 2 ^ (32 - s) * (val 4294967296 (ys.drop (i + 1)) % 2 ^ s) → OwnI .u32 B h2 v (zs.set i z) → Keep v.blk h h2 →
        (fun t h' => (∃ (i : Nat) (zs : List Nat), t = (i : Int) ∧ i ≤ ys.length ∧ OwnI .u32 B h' v zs ∧ Lim 4294967296 zs ∧ zs.length = ys.length ∧ zs.drop i = ys.drop i ∧
      val 4294967296 (zs.take i) + 4294967296 ^ i * (val 4294967296 (ys.drop i) / 2 ^ s) = val 4294967296 ys / 2 ^ s ∧ Keep v.blk h h') ∧ ys.length - t.toNat < ys.length - (i : Int).toNat) (IntKind.wrap .i64 ((i : Int) + 1)) h2 := by
      intro h2 z hz hze ho2 hk2
      rw [w64 (by omega) (by omega)]
      refine ⟨⟨i + 1, _, by omega, by omega, ho2, hlz.set _ hz, by simpa using hzl, ?_, ?_, hk2⟩, by omega⟩
      · rw [List.drop_set_of_lt (by omega), hdr1]
      · have hlt3 : i < (zs.set i z).length := by simpa using hiz
        rw [val_take_succ _ i hlt3, List.take_set_of_le (Nat.le_refl _), List.getElem_set_self, Nat.pow_succ, ← hval, hd1, shr_val hs, ← hze, Nat.mul_assoc, Nat.mul_add]
        omega
    refine seq.dup ?_
    refine RI.ld hoz.r (j := i) rfl hiz ⟨by omega, ?_⟩
    rw [hzy]
    have e1 : Int.fdiv ((ys[i] : Nat) : Int) (2 ^ (min (Int.toNat (s : Int)) (IntKind.bits .u32))) = ((ys[i] / 2 ^ s : Nat) : Int) := by
      have : min (Int.toNat (s : Int)) (IntKind.bits .u32) = s := by
        rw [Int.toNat_natCast]; exact Nat.min_eq_left (by show s ≤ 32; omega)
      rw [this, Int.fdiv_eq_ediv_of_nonneg _ (by exact_mod_cast Nat.zero_le (2 ^ s))]
      simp
    rw [e1]
    refine Own.st hoz (j := i) (m := ys[i] / 2 ^ s) rfl hiz rfl fun h2 ho2 hk2 _ => ?_
    rw [w64 (n := (i : Int) + 1) (by omega) (by omega)]
    have hdiv : ys[i] / 2 ^ s < 2 ^ (32 - s) := by
      rw [Nat.div_lt_iff_lt_mul hp, ← Nat.pow_add, show 32 - s + s = 32 from by omega]; omega
    have h31 : (2 : Nat) ^ (32 - s) ≤ 2147483648 := by
      have : (2 : Nat) ^ (32 - s) ≤ 2 ^ 31 := Nat.pow_le_pow_right (by decide) (by omega)
      omega
    refine ⟨fun hlt2 => ?_, fun hge2 => ?_⟩
    · simp only [decide_eq_true_eq] at hlt2
      have hi1 : i + 1 < ys.length := by omega
      have hlen2 : (zs.set i (ys[i] / 2 ^ s)).length = ys.length := by simpa using hzl
      refine RI.ld ho2.r (j := i) rfl (by omega) (RI.ld ho2.r (j := i + 1) (by omega) (by omega) ?_)
      have hz1 : (zs.set i (ys[i] / 2 ^ s))[i + 1]'(by omega) = ys[i + 1] := by
        rw [List.getElem_set_ne (by omega)]
        have h1 : i + 1 < zs.length := by omega
        have := List.drop_eq_getElem_cons h1
        have h2 := List.drop_eq_getElem_cons hi1
        rw [hdr1, h2] at this
        simp only [List.cons.injEq] at this
        exact this.1.symm
      rw [hz1, List.getElem_set_self]
      have hd2 := val_drop (b := 4294967296) ys (i + 1) hi1
      have hy1 := hl.get hi1
      generalize ys[i + 1] = y1 at *
      rw [w64 (n := 32 - (s : Int)) (by omega) (by omega)]
      refine ⟨by omega, ?_⟩
      have e2 : IntKind.wrap .u32 ((y1 : Int) * 2 ^ (min (Int.toNat (32 - (s : Int))) (IntKind.bits .u32))) = ((2 ^ (32 - s) * (y1 % 2 ^ s) : Nat) : Int) := by
        have : min (Int.toNat (32 - (s : Int))) (IntKind.bits .u32) = 32 - s := by
          have : Int.toNat (32 - (s : Int)) = 32 - s := by omega
          rw [this]; exact Nat.min_eq_left (by show 32 - s ≤ 32; omega)
        rw [this, wu32m]
        have e3 : ((y1 : Int) * 2 ^ (32 - s)) = ((y1 * 2 ^ (32 - s) : Nat) : Int) := by simp
        have e4 : (4294967296 : Int) = ((2 ^ s * 2 ^ (32 - s) : Nat) : Int) := by
          rw [← Nat.pow_add, show s + (32 - s) = 32 from by omega]; rfl
        rw [e3, e4, ← Int.natCast_emod, Nat.mul_mod_mul_right, Nat.mul_comm]
      have hm2 : 2 ^ (32 - s) * (y1 % 2 ^ s) ≤ 2 ^ (32 - s) * (2 ^ s - 1) := Nat.mul_le_mul_left _ (by have := Nat.mod_lt y1 hp; omega)
      have hm3 : 2 ^ (32 - s) * (2 ^ s - 1) + 2 ^ (32 - s) = 4294967296 := by
        have e7 : 2 ^ s - 1 + 1 = 2 ^ s := by omega
        have e8 : 2 ^ (32 - s) * (2 ^ s - 1) + 2 ^ (32 - s) = 2 ^ (32 - s) * (2 ^ s - 1 + 1) := by rw [Nat.mul_add, Nat.mul_one]
        rw [e8, e7, ← Nat.pow_add, show 32 - s + s = 32 from by omega]
      have e5 : (ys[i] / 2 ^ s) ||| (2 ^ (32 - s) * (y1 % 2 ^ s)) = ys[i] / 2 ^ s + 2 ^ (32 - s) * (y1 % 2 ^ s) := by
        rw [Nat.or_comm, Nat.mul_comm (2 ^ (32 - s)), or_add hdiv]; omega
      have e6 : val 4294967296 (ys.drop (i + 1)) % 2 ^ s = y1 % 2 ^ s := by
        rw [hd2]
        have e4 : (4294967296 : Nat) = 2 ^ s * 2 ^ (32 - s) := by
          rw [← Nat.pow_add, show s + (32 - s) = 32 from by omega]
        rw [e4, Nat.mul_assoc, Nat.add_mul_mod_self_left]
      have hm4 : 2 ^ (32 - s) * (y1 % 2 ^ s) + 2 ^ (32 - s) ≤ 4294967296 := by rw [← hm3]; exact Nat.add_le_add_right hm2 _
      have b1 : 2 ^ (32 - s) * (y1 % 2 ^ s) < 4294967296 := Nat.lt_of_lt_of_le (Nat.lt_add_of_pos_right (Nat.pow_pos (by decide))) hm4
      have b2 : ys[i] / 2 ^ s + 2 ^ (32 - s) * (y1 % 2 ^ s) < 4294967296 := Nat.lt_of_lt_of_le (Nat.add_lt_add_right hdiv _) (by rw [Nat.add_comm]; exact hm4)
      have b3 : ys[i] / 2 ^ s < 4294967296 := Nat.lt_of_le_of_lt (Nat.le_add_right _ _) b2
      rw [e2, or32 b3 b1, e5, wu32 (Int.natCast_nonneg _) (Int.ofNat_lt.2 b2)]
      refine Own.st ho2 (j := i) (m := ys[i] / 2 ^ s + 2 ^ (32 - s) * (y1 % 2 ^ s)) rfl (by omega) rfl fun h3 ho3 hk3 _ => ?_
      rw [List.set_set] at ho3
      have := fin h3 _ b2 (by rw [e6]) ho3 ((hk.trans hk2).trans hk3)
      rwa [w64 (n := (i : Int) + 1) (by omega) (by omega)] at this
    · simp only [decide_eq_false_iff_not] at hge2
      have hi1 : i + 1 = ys.length := by omega
      have : ys.drop (i + 1) = [] := List.drop_eq_nil_of_le (by omega)
      have := fin h2 (ys[i] / 2 ^ s) (by omega) (by rw [this, val_nil]; simp) ho2 (hk.trans hk2)
      rwa [w64 (n := (i : Int) + 1) (by omega) (by omega)] at this
  · simp only [decide_eq_false_iff_not] at hge
    have hi2 : i = ys.length := by omega
    subst hi2
    rw [List.drop_length, val_nil, Nat.zero_div, Nat.mul_zero, Nat.add_zero, ← hzl, List.take_length] at hval
    exact K h1 zs hoz hlz hval hzl hk
end Go.Sh

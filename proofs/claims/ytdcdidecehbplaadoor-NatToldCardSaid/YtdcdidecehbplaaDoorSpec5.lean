/- Laws that the proof of this claim's statement leans on, each proved under the conditions that it states. -/
import Derived.Test.YtdcdidecehbplaaDoorSpec4
set_option linter.unusedVariables false
set_option linter.unusedSimpArgs false
namespace Go.Sh
open Go Go.Lift

theorem minus_spec {x y : Sl} {m n : Nat} {h : Heap} {Q : Sl → Heap → Prop} (hx : NV h x m) (hy : NV h y n) (hxl : x.len ≤ 1048000) (hle : n ≤ m)
    (K : ∀ r h', NN h' r (m - n) → Ext h h' → (∀ b, r.blk = some b → h.size ≤ b) → r.len ≤ x.len → Q r h') : nat_minus x y h Q := by
  obtain ⟨xs, x1, x2, x3, x4⟩ := hx
  obtain ⟨ys, y1, y2, y3, y4⟩ := hy
  have lx := x1.len
  have ly := y1.len
  unfold nat_minus
  refine loop.inv (fun s h' => ∃ (zs : List Nat) (c i : Nat), s.2.1 = (c : Int) ∧ s.2.2 = (i : Int) ∧ OwnI .u32 h.size h' s.1 zs ∧ Lim 4294967296 zs ∧ zs.length = i ∧ i ≤ xs.length ∧ c ≤ 1 ∧
      val 4294967296 (xs.take i) + 4294967296 ^ i * c = val 4294967296 zs + val 4294967296 (ys.take i) ∧ Ext h h') (fun s _ => xs.length - s.2.2.toNat) ⟨[], 0, 0, rfl, rfl, Own.nil, Lim.nil, rfl, by omega, by omega, by simp [val], Keep.refl _ _⟩ ?_
  rintro ⟨out, carry, i'⟩ h' ⟨zs, c, i, hcc, hii, hown, hlim, hzl, hile, hc1, hval, hext⟩
  simp only at hcc hii hown
  subst hcc hii
  dsimp only
  refine ⟨fun hlt => ?_, fun hge => ?_⟩
  · simp only [decide_eq_true_eq] at hlt
    have hi : i < xs.length := by omega
    refine RI.ld (x1.ext hext) (j := i) rfl hi ?_
    have hxi := x2.get hi
    have hsx := val_take_succ (b := 4294967296) xs i hi
    generalize hxe : xs[i] = xi at *
    have gy := Lim.getD y2 (by decide) i
    have hsy := val_take_getD (b := 4294967296) ys i
    rintro d rfl
    rw [wu64 (n := (xi : Int)) (by omega) (by omega)]
    -- behind the subtraction
    have rest : ∀ t : Int, t = IntKind.wrap .u64 ((xi : Int) - (c : Int) - ((ys.getD i 0 : Nat) : Int)) →
        new [Value.int .u32 (IntKind.wrap .u32 t)] h' fun a_2 h0u2 => appendS 1 4 out (⟨some a_2, 1, 1⟩ : Sl) h0u2 fun v_3 h0u3 =>
        Let (Int.fdiv t (2 ^ (min (Int.toNat 63) (IntKind.bits .u64)))) fun borrow => (fun (s' : Sl × Int × Int) h'' => (∃ (zs : List Nat) (c i : Nat), s'.2.1 = (c : Int) ∧ s'.2.2 = (i : Int) ∧ OwnI .u32 h.size h'' s'.1 zs ∧ Lim 4294967296 zs ∧ zs.length = i ∧ i ≤ xs.length ∧ c ≤ 1 ∧
      val 4294967296 (xs.take i) + 4294967296 ^ i * c = val 4294967296 zs + val 4294967296 (ys.take i) ∧ Ext h h'') ∧ xs.length - s'.2.2.toNat < xs.length - (i : Int).toNat) (v_3, borrow, IntKind.wrap .i64 ((i : Int) + 1)) h0u3 := by
      intro t ht
      have htv : t = ((xi : Int) - (c : Int) - ((ys.getD i 0 : Nat) : Int)) % 18446744073709551616 := ht
      generalize hye : ys.getD i 0 = yi at *
      obtain ⟨z, c', hz, hc', hzv, hcv⟩ : ∃ z c' : Nat, z < 4294967296 ∧ c' ≤ 1 ∧ xi + 4294967296 * c' = z + (c + yi) ∧ (t = (z : Int) ∧ c' = 0 ∨ t = (z : Int) - 4294967296 + 18446744073709551616 ∧ c' = 1) := by
        by_cases hb : xi < c + yi
        · exact ⟨xi + 4294967296 - (c + yi), 1, by omega, by omega, by omega, .inr ⟨by omega, rfl⟩⟩
        · exact ⟨xi - (c + yi), 0, by omega, by omega, by omega, .inl ⟨by omega, rfl⟩⟩
      refine app1 (m := z) (by rw [wu32m]; omega) hown hext.size (by omega) fun s' h2 ho2 hk2 _ => ?_
      rintro borrow rfl
      have hsh : Int.fdiv t (2 ^ (min (Int.toNat 63) (IntKind.bits .u64))) = (c' : Int) := by
        show Int.fdiv t 9223372036854775808 = _
        rw [Int.fdiv_eq_ediv_of_nonneg _ (by omega)]
        omega
      rw [hsh, w64 (by omega) (by omega)]
      refine ⟨⟨zs ++ [z], c', i + 1, rfl, (by dsimp only; omega), ho2, hlim.snoc hz, by simp [hzl], by omega, hc', ?_, Keep.own hext hown (Nat.le_refl _) hk2⟩, (show xs.length - ((i : Int) + 1).toNat < xs.length - (i : Int).toNat from by omega)⟩
      rw [val_snoc, hzl, hsx, hsy, Nat.pow_succ]
      have e1 : 4294967296 ^ i * xi + 4294967296 ^ i * 4294967296 * c' = 4294967296 ^ i * z + (4294967296 ^ i * c + 4294967296 ^ i * yi) := by
        rw [Nat.mul_assoc, ← Nat.mul_add, hzv, Nat.mul_add, Nat.mul_add]
      omega
    refine seq.dup ⟨fun hlt2 => ?_, fun hge2 => ?_⟩
    · simp only [decide_eq_true_eq] at hlt2
      have hj : i < ys.length := by omega
      refine RI.ld (y1.ext hext) (j := i) rfl hj ?_
      have : ys[i] = ys.getD i 0 := by simp [hj]
      rintro d rfl
      rw [this, wu64 (n := ((ys.getD i 0 : Nat) : Int)) (by omega) (by omega)]
      refine rest _ ?_
      rw [wu64m, wu64m, wu64m]
      omega
    · simp only [decide_eq_false_iff_not] at hge2
      refine rest _ ?_
      have : ys.getD i 0 = 0 := by
        have hi : ys.length ≤ i := by omega
        simp [List.getElem?_eq_none hi]
      rw [this]
      simp
  · simp only [decide_eq_false_iff_not] at hge
    have hi : i = xs.length := by omega
    subst hi
    rw [List.take_length, x3] at hval
    have hb1 := val_lt hlim
    rw [hzl] at hb1
    have hyt := val_take_add (b := 4294967296) ys xs.length
    have hmb := val_lt x2
    rw [x3] at hmb
    -- the rest of y is nothing
    have hyr : val 4294967296 (ys.take xs.length) = n := by
      rw [y3] at hyt
      by_cases hll : ys.length ≤ xs.length
      · rw [List.take_of_length_le hll, y3]
      · rw [Nat.min_eq_left (by omega)] at hyt
        have hz : val 4294967296 (ys.drop xs.length) = 0 := by
          rcases Nat.eq_zero_or_pos (val 4294967296 (ys.drop xs.length)) with h0 | h0
          · exact h0
          · exfalso
            have := Nat.mul_le_mul_left (4294967296 ^ xs.length) h0
            omega
        rw [hz] at hyt
        omega
    rw [hyr] at hval
    have hc0 : c = 0 := by
      rcases Nat.eq_zero_or_pos c with h0 | h0
      · exact h0
      · exfalso
        have : c = 1 := by omega
        subst this
        rw [Nat.mul_one] at hval
        omega
    subst hc0
    refine trim_nn (n := m - n) ⟨zs, hown.r, hlim, by omega, by omega⟩ fun r hr hblk hrl => K r h' hr hext (fun b hb => ?_) ?_
    · rw [hblk] at hb
      exact (hown.lt hb).1
    · have := hown.r.len
      omega
end Go.Sh

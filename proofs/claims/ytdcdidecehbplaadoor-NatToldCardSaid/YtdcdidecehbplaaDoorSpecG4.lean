/- Laws that the proof of this claim's statement leans on, each proved under the conditions that it states. -/
import Derived.Test.YtdcdidecehbplaaDoorSpecG3
set_option linter.unusedVariables false
set_option linter.unusedSimpArgs false
namespace Go.Sh
open Go Go.Lift

theorem odd_coprime (a : Nat) : Nat.Coprime 2 (2 * a + 1) := by
  have h1 : Nat.gcd 2 (2 * a + 1) = Nat.gcd ((2 * a + 1) % 2) 2 := Nat.gcd_rec 2 (2 * a + 1)
  have h2 : (2 * a + 1) % 2 = 1 := by omega
  rw [h2] at h1
  exact h1.trans (Nat.gcd_one_left 2)
theorem gcd_pow2uright (k a b : Nat) : Nat.gcd (2 * a + 1) (2 ^ k * b) = Nat.gcd (2 * a + 1) b :=
  Nat.Coprime.gcd_mul_left_cancel_right b ((odd_coprime a).pow_left k)
theorem gcd_pow2uleft (k a b : Nat) : Nat.gcd (2 ^ k * b) (2 * a + 1) = Nat.gcd b (2 * a + 1) := by
  rw [Nat.gcd_comm, gcd_pow2uright, Nat.gcd_comm]
theorem gcd_pow2 (k l a b : Nat) : Nat.gcd (2 ^ k * (2 * a + 1)) (2 ^ l * (2 * b + 1)) = 2 ^ (min k l) * Nat.gcd (2 * a + 1) (2 * b + 1) := by
  by_cases h : k ≤ l
  · have : 2 ^ l * (2 * b + 1) = 2 ^ k * (2 ^ (l - k) * (2 * b + 1)) := by
      rw [← Nat.mul_assoc, ← Nat.pow_add, show k + (l - k) = l from by omega]
    rw [this, Nat.gcd_mul_left, gcd_pow2uright, Nat.min_eq_left h]
  · have : 2 ^ k * (2 * a + 1) = 2 ^ l * (2 ^ (k - l) * (2 * a + 1)) := by
      rw [← Nat.mul_assoc, ← Nat.pow_add, show l + (k - l) = k from by omega]
    rw [this, Nat.gcd_mul_left, gcd_pow2uleft, Nat.min_eq_right (by omega)]

theorem common_spec {x y : Sl} {m n : Nat} {h : Heap} {Q : Sl → Heap → Prop} (ht : Tab h) (hx : NV h x m) (hy : NV h y n) (hxl : x.len ≤ 1000) (hyl : y.len ≤ 1000)
    (K : ∀ r h', NN h' r (Nat.gcd m n) → Ext h h' → (∀ b, r.blk = some b → (x.blk = some b ∧ Nat.gcd m n = m) ∨ (y.blk = some b ∧ Nat.gcd m n = n) ∨ h.size ≤ b) → Q r h') : nat_common x y h Q := by
  unfold nat_common
  refine trim_nn hx fun x' hx' hxb hxl' => trim_nn hy fun y' hy' hyb hyl' => ?_
  refine ⟨fun h0 => ?_, fun h0 => ⟨fun h1 => ?_, fun h1 => ?_⟩⟩
  · simp only [beq_iff_eq] at h0
    have hm : m = 0 := hx'.len_zero.1 (by omega)
    subst hm
    exact K y' h (by rw [Nat.gcd_zero_left]; exact hy') (Keep.refl _ _) (fun b hb => .inr (.inl ⟨by rw [← hyb]; exact hb, Nat.gcd_zero_left _⟩))
  · simp only [beq_iff_eq] at h1
    have hn : n = 0 := hy'.len_zero.1 (by omega)
    subst hn
    exact K x' h (by rw [Nat.gcd_zero_right]; exact hx') (Keep.refl _ _) (fun b hb => .inl ⟨by rw [← hxb]; exact hb, Nat.gcd_zero_right _⟩)
  simp only [beq_eq_false_iff_ne, ne_eq] at h0 h1
  have hm0 : m ≠ 0 := fun h => h0 (by have := hx'.len_zero.2 h; omega)
  have hn0 : n ≠ 0 := fun h => h1 (by have := hy'.len_zero.2 h; omega)
  refine seq.cut (fun _ h' => h' = h) ?_ ?_
  · refine small_spec hx'.nv fun v hv hvm => ⟨fun hs => ?_, fun _ => rfl⟩
    refine small_spec hy'.nv fun w hw hwn => ⟨fun hs2 => ?_, fun _ => rfl⟩
    have hvm := hvm (by simpa using hs)
    have hwn := hwn (by simpa using hs2)
    subst hvm hwn
    refine loop.inv (fun s h' => h' = h ∧ ∃ a b : Nat, s = ((a : Int), (b : Int)) ∧ a < 18446744073709551616 ∧ b < 18446744073709551616 ∧ Nat.gcd a b = Nat.gcd v w) (fun s _ => s.2.toNat) ⟨rfl, v, w, rfl, hv, hw, rfl⟩ ?_
    rintro s h' ⟨rfl, a, b, rfl, ha, hb, hg⟩
    dsimp only
    refine ⟨fun hne => ?_, fun he => ?_⟩
    · simp only [bne_iff_ne, ne_eq] at hne
      refine ⟨hne, ?_⟩
      have e : Int.tmod (a : Int) (b : Int) = ((a % b : Nat) : Int) := rfl
      rintro m' rfl
      rw [e]
      have hb0 : 0 < b := by omega
      have hlt := Nat.mod_lt a hb0
      refine ⟨⟨rfl, b, a % b, rfl, hb, by omega, ?_⟩, by simp only [Int.toNat_natCast]; exact hlt⟩
      rw [← hg, Nat.gcd_comm a b, Nat.gcd_rec b a, Nat.gcd_comm]
    · simp only [bne_eq_false_iff_eq] at he
      have hb0 : b = 0 := by omega
      subst hb0
      rw [Nat.gcd_zero_right] at hg
      subst hg
      refine Of_spec rfl ha fun r h2 hr he2 hrb => K r h2 hr he2 (fun b hb => .inr (.inr (hrb b hb).1))
  · rintro _ h' rfl
    refine halve_spec ht hx' hm0 (by omega) fun p k1 a h1 hm hp he1 hpl hk1 => ?_
    refine halve_spec (ht.ext he1) (hy'.ext he1) hn0 (by omega) fun q k2 b h2 hn hq he2 hql hk2 => ?_
    have hp := hp.ext he2
    dsimp only
    have hgcd : Nat.gcd m n = 2 ^ (min k1 k2) * Nat.gcd (2 * a + 1) (2 * b + 1) := by rw [hm, hn, gcd_pow2]
    have hmin : (if (k2 : Int) < (k1 : Int) then (k2 : Int) else (k1 : Int)) = ((min k1 k2 : Nat) : Int) := by split <;> omega
    rw [hmin]
    have hk : min k1 k2 ≤ 3200000 := by omega
    generalize min k1 k2 = kk at *
    clear hm hn hk1 hk2 hmin
    refine loop.inv (fun s h3 => ∃ c d : Nat, NN h3 s.1 (2 * c + 1) ∧ NN h3 s.2 (2 * d + 1) ∧ Nat.gcd (2 * c + 1) (2 * d + 1) = Nat.gcd (2 * a + 1) (2 * b + 1) ∧ s.1.len ≤ 1000 ∧ s.2.len ≤ 1000 ∧ Ext h' h3) (fun s h3 => numOf h3 s.1 + numOf h3 s.2)
      ⟨a, b, hp, hq, rfl, by dsimp only; omega, by dsimp only; omega, he1.trans he2⟩ ?_
    rintro ⟨s1, s2⟩ h3 ⟨c, d, hc, hd, hg, hl1, hl2, he3⟩
    simp only at hc hd hl1 hl2
    dsimp only
    rw [numOf_eq hc, numOf_eq hd]
    refine Cmp_spec hc.nv hd.nv ⟨fun hne => ?_, fun heq => ?_⟩
    · have hcd : c ≠ d := fun h => by
        subst h
        simp [cmpI] at hne
      -- the greater one ahead
      refine seq.cut (fun t h4 => h4 = h3 ∧ ∃ e f : Nat, f < e ∧ e + f = c + d ∧ NN h3 t.1 (2 * e + 1) ∧ NN h3 t.2 (2 * f + 1) ∧ Nat.gcd (2 * e + 1) (2 * f + 1) = Nat.gcd (2 * a + 1) (2 * b + 1) ∧ t.1.len ≤ 1000 ∧ t.2.len ≤ 1000) ?_ ?_
      · refine Cmp_spec hc.nv hd.nv ⟨fun hlt => ?_, fun hge => ?_⟩
        · simp only [decide_eq_true_eq] at hlt
          have hlt' : c < d := by
            unfold cmpI at hlt
            split at hlt
            · omega
            · split at hlt <;> simp at hlt
          exact ⟨rfl, d, c, hlt', by omega, hd, hc, by rw [Nat.gcd_comm]; exact hg, hl2, hl1⟩
        · simp only [decide_eq_false_iff_not] at hge
          have hge' : d < c := by
            unfold cmpI at hge
            split at hge
            · simp at hge
            · omega
          exact ⟨rfl, c, d, hge', by omega, hc, hd, hg, hl1, hl2⟩
      · rintro ⟨t1, t2⟩ h4 ⟨rfl, e, f, hfe, hsum, he, hf, hg2, hle, hlf⟩
        simp only at he hf hle hlf
        dsimp only
        refine minus_spec he.nv hf.nv (by omega) (by omega) fun w h5 hw he5 _ hwl => ?_
        have hdiff : 2 * e + 1 - (2 * f + 1) = 2 * (e - f) := by omega
        rw [hdiff] at hw
        refine halve_spec (ht.ext (he3.trans he5)) hw (by omega) (by omega) fun z k3 g h6 hz hzn he6 hzl hk3 => ?_
        have hf6 := (hf.ext he5).ext he6
        have hz1 : 2 * g + 1 ≤ 2 * (e - f) := by rw [hz]; exact Nat.le_mul_of_pos_left _ (Nat.pow_pos (by decide))
        refine ⟨⟨g, f, hzn, hf6, ?_, by dsimp only; omega, hlf, (he3.trans he5).trans he6⟩, ?_⟩
        · rw [← hg2, ← gcd_pow2uleft k3, ← hz]
          have : 2 * e + 1 = 2 * (e - f) + (2 * f + 1) := by omega
          rw [this, Nat.gcd_add_self_left]
        · rw [numOf_eq hzn, numOf_eq hf6]; omega
    · have hcd : c = d := by
        unfold cmpI at heq
        split at heq
        · simp at heq
        · split at heq
          · omega
          · simp at heq
      subst hcd
      rw [Nat.gcd_self] at hg
      refine double_spec hc.nv (by omega) hk fun r h4 hr he4 hrb => K r h4 (by rw [hgcd, ← hg]; exact hr) (he3.trans he4) (fun b hb => .inr (.inr ?_))
      have := hrb b hb
      have := he3.size
      omega
end Go.Sh

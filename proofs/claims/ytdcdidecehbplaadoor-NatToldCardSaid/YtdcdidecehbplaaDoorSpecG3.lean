/- Laws that the proof of this claim's statement leans on, each proved under the conditions that it states. -/
import Derived.Test.YtdcdidecehbplaaDoorSpecG2
set_option linter.unusedVariables false
set_option linter.unusedSimpArgs false
namespace Go.Sh
open Go Go.Lift

theorem halve_spec {x : Sl} {n : Nat} {h : Heap} {Q : (Sl × Int) → Heap → Prop} (ht : Tab h) (hx : NN h x n) (hn : n ≠ 0) (hxl : x.len ≤ 1000000)
    (K : ∀ r (k m : Nat) h', n = 2 ^ k * (2 * m + 1) → NN h' r (2 * m + 1) → Ext h h' → r.len ≤ x.len → k < 32 * x.len → Q (r, (k : Int)) h') : nat_halve x h Q := by
  obtain ⟨xs, x1, x2, x3, x4, x5⟩ := hx
  have lx := x1.len
  unfold nat_halve
  have hne : xs ≠ [] := fun h => by subst h; exact hn x4.symm
  have hlpos : 0 < xs.length := List.length_pos_iff.2 hne
  refine loop.inv (fun t h' => h' = h ∧ ∃ j : Nat, t = ((32 * j : Nat) : Int) ∧ j < xs.length ∧ val 4294967296 (xs.take j) = 0) (fun t _ => 32 * xs.length - t.toNat) ⟨rfl, 0, rfl, hlpos, rfl⟩ ?_
  rintro t h' ⟨rfl, j, rfl, hj, hz⟩
  have e1 : Int.tdiv ((32 * j : Nat) : Int) 32 = (j : Int) := by
    have : Int.tdiv ((32 * j : Nat) : Int) 32 = ((32 * j / 32 : Nat) : Int) := rfl
    rw [this, Nat.mul_div_cancel_left _ (by decide)]
  rw [e1, w64 (n := (j : Int)) (by omega) (by omega)]
  have hts := val_take_succ (b := 4294967296) xs j hj
  have hxj := x2.get hj
  refine RI.ld x1 (j := j) rfl hj ⟨fun h0 => ?_, fun h0 => ?_⟩
  · simp only [beq_iff_eq] at h0
    have h0' : xs[j] = 0 := by omega
    have hz2 : val 4294967296 (xs.take (j + 1)) = 0 := by rw [hts, hz, h0']; simp
    have hj2 : j + 1 < xs.length := by
      by_cases h : j + 1 < xs.length
      · exact h
      · rw [List.take_of_length_le (by omega), x4] at hz2
        exact absurd hz2 hn
    rintro k rfl
    rw [w64 (by omega) (by omega)]
    exact ⟨⟨rfl, j + 1, by omega, hj2, hz2⟩, by omega⟩
  · simp only [beq_eq_false_iff_ne, ne_eq] at h0
    have hxj0 : 0 < xs[j] := by omega
    refine RI.ld x1 (j := j) rfl hj ?_
    refine tz_spec ht hxj0 hxj fun t m ht32 htm => ?_
    have hd := val_drop (b := 4294967296) xs j hj
    have htot : n = 4294967296 ^ j * val 4294967296 (xs.drop j) := by
      have := val_take_add (b := 4294967296) xs j
      rw [hz, Nat.min_eq_left (by omega), Nat.zero_add, x4] at this
      exact this
    have hlim2 : Lim 4294967296 (xs.drop j) := fun z hz => x2 z (List.mem_of_mem_drop hz)
    -- what is left, as an odd number
    have hodd : val 4294967296 (xs.drop j) = 2 ^ t * (2 * (m + 2 ^ (31 - t) * val 4294967296 (xs.drop (j + 1))) + 1) := by
      rw [hd, htm]
      have e : (4294967296 : Nat) = 2 ^ t * (2 * 2 ^ (31 - t)) := by
        rw [Nat.mul_comm 2, ← Nat.pow_succ, ← Nat.pow_add, show t + (31 - t + 1) = 32 from by omega]
      generalize val 4294967296 (xs.drop (j + 1)) = V
      conv => lhs; rw [e, Nat.mul_assoc, ← Nat.mul_add]
      congr 1
      rw [Nat.mul_add, Nat.mul_assoc]; omega
    generalize m + 2 ^ (31 - t) * val 4294967296 (xs.drop (j + 1)) = M at hodd
    have htot2 : n = 2 ^ (32 * j + t) * (2 * M + 1) := by
      rw [htot, hodd, ← Nat.mul_assoc, Nat.pow_add, Nat.pow_mul]
    rintro k1 rfl
    rw [w64 (n := ((32 * j : Nat) : Int) + (t : Int)) (by omega) (by omega)]
    have ek : ((32 * j : Nat) : Int) + (t : Int) = ((32 * j + t : Nat) : Int) := by simp
    rw [ek]
    have e2 : Int.tdiv ((32 * j + t : Nat) : Int) 32 = (j : Int) := by
      have : Int.tdiv ((32 * j + t : Nat) : Int) 32 = (((32 * j + t) / 32 : Nat) : Int) := rfl
      rw [this]; omega
    have e3 : Int.tmod ((32 * j + t : Nat) : Int) 32 = (t : Int) := by
      have : Int.tmod ((32 * j + t : Nat) : Int) 32 = (((32 * j + t) % 32 : Nat) : Int) := rfl
      rw [this]; omega
    rw [e2, e3, w64 (n := (j : Int)) (by omega) (by omega)]
    refine x1.drop rfl (Nat.le_of_lt hj) fun s' hs' _ => ?_
    have hdl : (xs.drop j).length ≤ xs.length := by simp
    refine clone_spec hs' (by omega) fun v h1 hov he1 => ?_
    refine seq.cut (fun _ h2 => ∃ zs, OwnI .u32 h'.size h2 v zs ∧ Lim 4294967296 zs ∧ val 4294967296 zs = 2 * M + 1 ∧ zs.length = (xs.drop j).length ∧ Ext h' h2) ?_ ?_
    · rintro s0 rfl
      refine ⟨fun hpos => ?_, fun hnp => ?_⟩
      · simp only [gt_iff_lt, decide_eq_true_eq] at hpos
        refine shr_loop (K0 := fun _ h2 => ∃ zs, OwnI .u32 h'.size h2 v zs ∧ Lim 4294967296 zs ∧ val 4294967296 zs = 2 * M + 1 ∧ zs.length = (xs.drop j).length ∧ Ext h' h2) hov hlim2 (by omega) (by omega) ht32 fun h2 zs hoz hlz hvz hzl hk => ⟨zs, hoz, hlz, ?_, hzl, Keep.own he1 hov (Nat.le_refl _) hk⟩
        rw [hvz, hodd, Nat.mul_div_cancel_left _ (Nat.pow_pos (by decide))]
      · simp only [gt_iff_lt, decide_eq_false_iff_not] at hnp
        have ht0 : t = 0 := by omega
        refine ⟨_, hov, hlim2, ?_, rfl, he1⟩
        rw [hodd, ht0]; simp
    · rintro _ h2 ⟨zs, hoz, hlz, hvz, hzl, he2⟩
      have hvl := hoz.r.len
      refine trim_nn (n := 2 * M + 1) ⟨zs, hoz.r, hlz, hvz, by omega⟩ fun r hr _ hrl => ?_
      exact K r (32 * j + t) M h2 htot2 hr he2 (by omega) (by omega)

theorem double_spec {x : Sl} {n k : Nat} {h : Heap} {Q : Sl → Heap → Prop} (hx : NV h x n) (hxl : x.len ≤ 100000) (hk : k ≤ 3200000)
    (K : ∀ r h', NN h' r (2 ^ k * n) → Ext h h' → (∀ b, r.blk = some b → h.size ≤ b) → Q r h') : nat_double x (k : Int) h Q := by
  unfold nat_double
  have e2 : Int.tdiv (k : Int) 32 = ((k / 32 : Nat) : Int) := rfl
  have e3 : Int.tmod (k : Int) 32 = ((k % 32 : Nat) : Int) := rfl
  rw [e2, e3, w64 (n := ((k / 32 : Nat) : Int)) (by omega) (by omega)]
  rintro t8 rfl
  rw [w64 (by omega) (by omega)]
  refine mk_spec (m := k / 32 + 1) (by omega) (by omega) fun v h1 hov he1 hvl => ⟨by omega, ?_⟩
  have hp : 2 ^ (k % 32) < 4294967296 := by
    have : (2 : Nat) ^ (k % 32) ≤ 2 ^ 31 := Nat.pow_le_pow_right (by decide) (by omega)
    omega
  have e4 : IntKind.wrap .u32 (1 * 2 ^ (min (Int.toNat ((k % 32 : Nat) : Int)) (IntKind.bits .u32))) = ((2 ^ (k % 32) : Nat) : Int) := by
    have : min (Int.toNat ((k % 32 : Nat) : Int)) (IntKind.bits .u32) = k % 32 := by
      rw [Int.toNat_natCast]; exact Nat.min_eq_left (by show k % 32 ≤ 32; omega)
    rw [this, Int.one_mul, wu32m]
    have : (2 : Int) ^ (k % 32) = ((2 ^ (k % 32) : Nat) : Int) := by simp
    rw [this]
    generalize 2 ^ (k % 32) = p at *
    omega
  rw [e4]
  refine Own.st hov (j := k / 32) (m := 2 ^ (k % 32)) rfl (by simp) rfl fun h2 ho2 hk2 _ => ?_
  have he2 : Ext h h2 := Keep.own he1 hov (Nat.le_refl _) hk2
  have hl2 : Lim 4294967296 ((List.replicate (k / 32 + 1) 0).set (k / 32) (2 ^ (k % 32))) := Lim.set (fun z hz => by rw [List.eq_of_mem_replicate hz]; decide) _ hp
  have hv2 : val 4294967296 ((List.replicate (k / 32 + 1) 0).set (k / 32) (2 ^ (k % 32))) = 2 ^ k := by
    have h1 := val_set (b := 4294967296) (List.replicate (k / 32 + 1) 0) (k / 32) (by simp) (2 ^ (k % 32))
    rw [val_replicate_zero, List.getElem_replicate, Nat.mul_zero, Nat.add_zero, Nat.zero_add] at h1
    rw [h1]
    have : (4294967296 : Nat) = 2 ^ 32 := rfl
    rw [this, ← Nat.pow_mul, ← Nat.pow_add, Nat.div_add_mod]
  refine times_spec (hx.ext he2) ⟨_, ho2.r, hl2, hv2, by simp; omega⟩ (by omega) (by omega) fun w h3 zs hoz hlz hvz hzl he3 => ?_
  have hwl := hoz.r.len
  refine trim_nn (n := n * 2 ^ k) ⟨zs, hoz.r, hlz, hvz, by omega⟩ fun r hr hrb _ => ?_
  rw [Nat.mul_comm] at hr
  refine K r h3 hr (he2.trans he3) (fun b hb => ?_)
  rw [hrb] at hb
  have := (hoz.lt hb).1
  have := he2.size
  omega
end Go.Sh

/- Laws that the proof of this claim's statement leans on, each proved under the conditions that it states. -/
import Derived.Test.YtdcdidecehbplaaDoorSpecD2
set_option linter.unusedVariables false
set_option linter.unusedSimpArgs false
namespace Go.Sh
open Go Go.Lift

theorem Mul10uspec {x y : Sl} {m n : Nat} {h : Heap} {Q : Sl → Heap → Prop} (hx : DN h x m) (hy : DN h y n) (hxl : x.len ≤ 100000) (hyl : y.len ≤ 100000)
    (K : ∀ r h', DN h' r (m * n) → Ext h h' → (∀ b, r.blk = some b → h.size ≤ b) → Q r h') : ref01uMul x y h Q := by
  obtain ⟨xs, x1, x2, x3, x4⟩ := hx
  obtain ⟨ys, y1, y2, y3, y4⟩ := hy
  have lx := x1.len
  have ly := y1.len
  unfold ref01uMul
  rintro t15 rfl
  rw [w64 (n := (x.len : Int) + (y.len : Int)) (by omega) (by omega), w64 (by omega) (by omega)]
  refine mk_spec (m := xs.length + ys.length + 1) (by omega) (by omega) fun v h0 ho0 he0 hvl => ?_
  have hyn := val_lt y2
  rw [y4] at hyn
  refine loop.inv (fun s h' => ∃ (zs : List Nat) (i : Nat), s = (i : Int) ∧ OwnI .i64 h.size h' v zs ∧ Lim 10 zs ∧ zs.length = xs.length + ys.length + 1 ∧ i ≤ xs.length ∧
      val 10 zs = val 10 (xs.take i) * n ∧ Ext h h') (fun s _ => xs.length - s.toNat)
    ⟨List.replicate (xs.length + ys.length + 1) 0, 0, rfl, ho0, fun z hz => by rw [List.eq_of_mem_replicate hz]; decide, by simp, by omega, by rw [val_replicate_zero]; simp [val], he0⟩ ?_
  rintro s h1 ⟨zs, i, rfl, ho, hlim, hzl, hile, hval, hext⟩
  refine ⟨fun hlt => ?_, fun hge => ?_⟩
  · simp only [decide_eq_true_eq] at hlt
    have hi : i < xs.length := by omega
    have hxi := x2.get hi
    have hts := val_take_succ (b := 10) xs i hi
    have htot : val 10 (xs.take (i + 1)) * n < 10 ^ (i + 1 + ys.length) := by
      have h1 := val_lt (x2.take (i + 1))
      rw [List.length_take, Nat.min_eq_left (by omega)] at h1
      rw [Nat.pow_add]
      exact Nat.mul_lt_mul'' h1 hyn
    have htot2 : val 10 (xs.take (i + 1)) * n = val 10 zs + 10 ^ i * (xs[i] * n) := by
      rw [hts, Nat.add_mul, ← hval, Nat.mul_assoc]
    generalize hxe : xs[i] = xi at *
    refine loop.inv (fun s h' => ∃ (k c : Nat) (ws : List Nat), s.1 = (c : Int) ∧ s.2 = (k : Int) ∧ c ≤ 9 ∧ (k ≤ ys.length ∨ c = 0) ∧ k ≤ ys.length + 1 ∧ OwnI .i64 h.size h' v ws ∧ Lim 10 ws ∧ ws.length = xs.length + ys.length + 1 ∧
        val 10 ws + 10 ^ (i + k) * c = val 10 zs + 10 ^ i * (xi * val 10 (ys.take k)) ∧ Ext h h') (fun s _ => ys.length + 1 - s.2.toNat)
      ⟨0, 0, zs, rfl, rfl, by omega, .inl (by omega), by omega, ho, hlim, hzl, by simp [val], hext⟩ ?_
    rintro ⟨c', k'⟩ h2 ⟨k, c, ws, hc, hk, hc9, hkc, hk1, how, hwl, hwlen, hwv, hext2⟩
    simp only at hc hk
    subst hc hk
    dsimp only
    refine seq.cut (fun b h'' => h'' = h2 ∧ b = decide (k < ys.length ∨ 0 < c)) ?_ ?_
    · refine ⟨fun h1 => ?_, fun h1 => ?_⟩
      · simp only [decide_eq_true_eq] at h1
        exact ⟨rfl, by simp; omega⟩
      · simp only [decide_eq_false_iff_not] at h1
        exact ⟨rfl, decide_eq_decide.2 (by omega)⟩
    rintro b h3 ⟨rfl, rfl⟩
    refine ⟨fun hgo => ?_, fun hstop => ?_⟩
    · simp only [decide_eq_true_eq] at hgo
      have hkl : k ≤ ys.length := by omega
      -- beyond y something is carried only where there is room
      have hik : i + k < ws.length := by omega
      rw [w64 (n := (i : Int) + (k : Int)) (by omega) (by omega)]
      refine RI.ld how.r (j := i + k) (by omega) hik ?_
      have hwk := hwl.get hik
      have hset := val_set (b := 10) ws (i + k) hik
      have gy := Lim.getD y2 (by decide) k
      have hys := val_take_getD (b := 10) ys k
      generalize hwe : ws[i + k] = wk at *
      rintro n0 rfl
      rw [w64 (n := (wk : Int) + (c : Int)) (by omega) (by omega)]
      have hprod : xi * ys.getD k 0 ≤ 9 * 9 := Nat.mul_le_mul (by omega) (by omega)
      refine seq.cut (fun n2 h4 => h4 = h3 ∧ n2 = ((wk + c + xi * ys.getD k 0 : Nat) : Int)) ?_ ?_
      · refine ⟨fun h1 => ?_, fun h1 => ?_⟩
        · simp only [decide_eq_true_eq] at h1
          have hky : k < ys.length := by omega
          refine RI.ld (x1.ext hext2) (j := i) rfl hi (RI.ld (y1.ext hext2) (j := k) rfl hky ?_)
          have e1 : ys.getD k 0 = ys[k] := by simp [hky]
          rw [e1] at hprod ⊢
          rw [hxe]
          have e2 : (xi : Int) * (ys[k] : Int) = ((xi * ys[k] : Nat) : Int) := by simp
          rw [e2]
          generalize xi * ys[k] = p at *
          rintro z rfl
          rw [w64 (n := (p : Int)) (by omega) (by omega), w64 (by omega) (by omega)]
          exact ⟨rfl, by omega⟩
        · simp only [decide_eq_false_iff_not] at h1
          have : ys.getD k 0 = 0 := by simp [List.getElem?_eq_none (show ys.length ≤ k by omega)]
          exact ⟨rfl, by rw [this]; simp⟩
      rintro n2 h4 ⟨rfl, rfl⟩
      -- where y has ended, what is carried ends, too
      have hend : ys.length ≤ k → (wk + c + xi * ys.getD k 0) / 10 = 0 := fun hyk => by
        have h0 : ys.getD k 0 = 0 := by simp [List.getElem?_eq_none hyk]
        rw [h0, Nat.mul_zero, Nat.add_zero]
        have hke : k = ys.length := by omega
        rw [List.take_of_length_le hyk, y4, ← htot2] at hwv
        have h1 := hset 0
        rw [Nat.mul_zero, Nat.add_zero] at h1
        have h3 : 10 ^ (i + k) * (wk + c) < 10 ^ (i + k) * 10 := by
          have : 10 ^ (i + k) * 10 = 10 ^ (i + 1 + ys.length) := by rw [← Nat.pow_succ]; congr 1; omega
          rw [this, Nat.mul_add]
          omega
        have := Nat.lt_of_mul_lt_mul_left h3
        omega
      generalize htt : wk + c + xi * ys.getD k 0 = t at *
      have ht : t < 100 := by omega
      have e1 : Int.tmod (t : Int) 10 = ((t % 10 : Nat) : Int) := rfl
      have e2 : Int.tdiv (t : Int) 10 = ((t / 10 : Nat) : Int) := rfl
      rw [e1, e2]
      refine Own.st how (j := i + k) (m := t % 10) (by omega) hik rfl fun h5 ho5 hk5 _ => ?_
      rintro c2 rfl k2 rfl
      rw [w64 (by omega) (by omega), w64 (n := (k : Int) + 1) (by omega) (by omega)]
      refine ⟨⟨k + 1, t / 10, _, rfl, by omega, by omega, ?_, by omega, ho5, hwl.set _ (Nat.mod_lt _ (by decide)), by simpa using hwlen, ?_, Keep.own hext2 how (Nat.le_refl _) hk5⟩, by omega⟩
      · rcases Nat.lt_or_ge k ys.length with h | h
        · left; omega
        · right; exact hend h
      · have h1 := hset (t % 10)
        rw [hys, show i + (k + 1) = (i + k) + 1 from by omega, Nat.pow_succ]
        have e1 : 10 ^ (i + k) * (t % 10) + 10 ^ (i + k) * 10 * (t / 10) = 10 ^ (i + k) * t := by
          rw [Nat.mul_assoc, ← Nat.mul_add, Nat.mod_add_div]
        have e2 : 10 ^ (i + k) * t = 10 ^ (i + k) * wk + 10 ^ (i + k) * c + 10 ^ (i + k) * (xi * ys.getD k 0) := by
          rw [← htt, Nat.mul_add, Nat.mul_add]
        have e3 : 10 ^ i * (xi * (val 10 (List.take k ys) + 10 ^ k * ys.getD k 0)) = 10 ^ i * (xi * val 10 (List.take k ys)) + 10 ^ (i + k) * (xi * ys.getD k 0) := by
          rw [Nat.mul_add, Nat.mul_add, Nat.pow_add]
          congr 1
          rw [Nat.mul_left_comm xi, Nat.mul_assoc]
        rw [e3]
        omega
    · simp only [decide_eq_false_iff_not] at hstop
      have hc0 : c = 0 := by omega
      subst hc0
      rw [Nat.mul_zero, Nat.add_zero, List.take_of_length_le (by omega), y4, ← htot2] at hwv
      rintro i2 rfl
      rw [w64 (by omega) (by omega)]
      exact ⟨⟨ws, i + 1, by omega, how, hwl, hwlen, by omega, hwv, hext2⟩, by omega⟩
  · simp only [decide_eq_false_iff_not] at hge
    have hi : i = xs.length := by omega
    subst hi
    rw [List.take_length, x4] at hval
    refine CutD ho.r hlim (by omega) fun r hr hbl => K r h1 (by rw [← hval]; exact hr) hext (fun b hb => ?_)
    rw [hbl] at hb
    exact (ho.lt hb).1
end Go.Sh

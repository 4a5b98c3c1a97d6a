/-
  Laws that the proof of this claim's statement leans on, each proved under the conditions that it states.
-/
import Derived.Test.YtlclchgingkkhaaGreatDoorSpG
set_option linter.unusedVariables false
set_option linter.unusedSimpArgs false
namespace Go.Sh
open Go Go.Lift
theorem aa9 {n : Nat} : n < 4294967296 ^ nl n := gA.1 (Nat.le_refl _)
theorem ab0 (m n : Nat) : nl (m + n) ≤ max (nl m) (nl n) + 1 := by
  rw [gA]
  have h1 : m < 4294967296 ^ max (nl m) (nl n) := Nat.lt_of_lt_of_le aa9 (Nat.pow_le_pow_right (by decide) (Nat.le_max_left _ _))
  have h2 : n < 4294967296 ^ max (nl m) (nl n) := Nat.lt_of_lt_of_le aa9 (Nat.pow_le_pow_right (by decide) (Nat.le_max_right _ _))
  rw [Nat.pow_succ]
  generalize 4294967296 ^ max (nl m) (nl n) = p at *
  omega
theorem d9 (m n : Nat) : nl (m * n) ≤ nl m + nl n := by
  rw [gA, Nat.pow_add]
  have h1 : m < 4294967296 ^ nl m := aa9
  have h2 : n < 4294967296 ^ nl n := aa9
  exact Nat.mul_lt_mul'' h1 h2
section
variable {a : Addr} {lim : Nat} {x y : Sl} {m n : Nat} {h : Heap}
theorem yw {lim k : Nat} (hk : k ≤ lim) : (false || decide (lim < k)) = false := by simp; omega
theorem gG {r : Sl} (hb : Bench h a lim false) (hs : ∀ b, r.blk = some b → h.size ≤ b) : r.blk ≠ some a.block := fun he => by
  have := hs _ he
  have := hb.lt
  omega
end
end Go.Sh

namespace Go.Sh
open Go Go.Lift
noncomputable def numD (h : Heap) (s : Sl) : Nat := open Classical in if hx : ∃ k, DN h s k then Classical.choose hx else 0
theorem DN.uniq {h : Heap} {s : Sl} {m n : Nat} (hm : DN h s m) (hn : DN h s n) : m = n := by
  obtain ⟨xs, x1, _, _, x4⟩ := hm
  obtain ⟨ys, y1, _, _, y4⟩ := hn
  have h1 := x1.cells
  have h2 := y1.cells
  rw [h1] at h2
  simp only [Option.some.injEq] at h2
  have : xs = ys := by
    apply List.ext_getElem
    · have := congrArg List.length h2; simpa using this
    · intro i hi hj
      have := congrArg (fun l => l[i]?) h2
      simp [hi, hj] at this
      exact_mod_cast this
  rw [← x4, ← y4, this]
theorem qY {h : Heap} {s : Sl} {n : Nat} (hn : DN h s n) : numD h s = n := by
  unfold numD
  have hx : ∃ k, DN h s k := ⟨n, hn⟩
  rw [dif_pos hx]
  exact (Classical.choose_spec hx).uniq hn
theorem ug {m n : Nat} : decide (cmpI m n ≥ 0) = decide (n ≤ m) := by
  unfold cmpI
  apply decide_eq_decide.2
  constructor
  · intro h
    split at h
    · simp at h
    · omega
  · intro h
    rw [if_neg (by omega)]
    split <;> decide
theorem j6 {x y : Sl} {m n : Nat} {h : Heap} {Q : (Sl × Sl) → Heap → Prop} (hx : DN h x m) (hy : DN h y n) (hxl : x.len ≤ 100000000) (hyl : y.len ≤ 100000000)
    (K1 : n = 0 → ∀ q r h', DN h' q 0 → DN h' r 0 → Ext h h' → Q (q, r) h')
    (K : n ≠ 0 → ∀ q r h', DN h' q (m / n) → DN h' r (m % n) → Ext h h' → Q (q, r) h') : eC x y h Q := by
  unfold eC
  refine ⟨fun h0 => ?_, fun h0 => ?_⟩
  · simp only [beq_iff_eq] at h0
    have hn : n = 0 := hy.len_zero.1 (by omega)
    refine newN (kd := .i64) (ms := []) rfl fun h1 ho1 he1 _ => newN (kd := .i64) (ms := []) rfl fun h2 ho2 he2 _ => ?_
    exact K1 hn _ _ h2 ⟨[], (ho1.ext he2).r, Lim.nil, Nrm.nil, rfl⟩ ⟨[], ho2.r, Lim.nil, Nrm.nil, rfl⟩ (he1.trans he2)
  · simp only [beq_eq_false_iff_ne, ne_eq] at h0
    have hn0 : n ≠ 0 := fun h => h0 (by have := hy.len_zero.2 h; omega)
    have hdy := hy
    obtain ⟨E, hE⟩ : ∃ E : Nat, E = 100000000 := ⟨_, rfl⟩
    have hyE : y.len ≤ E := by omega
    have hyb : n < 10 ^ E := by
      obtain ⟨ys, y1, y2, y3, y4⟩ := hy
      have h1 := cw y2
      have h2 : (10 : Nat) ^ ys.length ≤ 10 ^ E := Nat.pow_le_pow_right (by decide) (by rw [← y1.len]; exact hyE)
      rw [y4] at h1
      exact Nat.lt_of_lt_of_le h1 h2
    obtain ⟨xs, x1, x2, x3, x4⟩ := hx
    have lx := x1.len
    rintro t15 rfl
    refine lY (m := xs.length) (by omega) (by omega) fun qv h1 hq1 he1 hql => ?_
    refine newN (kd := .i64) (ms := []) rfl fun h2 ho2 he2 _ => ?_
    rintro r0 rfl i rfl
    rw [w64 (n := (x.len : Int) - 1) (by omega) (by omega)]
    have hqb : ∀ b, qv.blk = some b → b < h1.size := fun b hb => (hq1.lt hb).2
    refine loop.inv (fun s h' => ∃ (j r : Nat) (qs : List Nat), s.2 = (j : Int) - 1 ∧ j ≤ xs.length ∧ DN h' s.1 r ∧ r < n ∧ (∀ b, s.1.blk = some b → h1.size ≤ b) ∧ OwnI .i64 h.size h' qv qs ∧ Lim 10 qs ∧ qs.length = xs.length ∧
        val 10 (qs.take j) = 0 ∧ val 10 (xs.drop j) = val 10 (qs.drop j) * n + r ∧ Ext h h' ∧ h1.size ≤ h'.size) (fun s _ => (s.2 + 1).toNat)
      ⟨xs.length, 0, List.replicate xs.length 0, by dsimp only; omega, by omega, ⟨[], ho2.r, Lim.nil, Nrm.nil, rfl⟩, Nat.pos_of_ne_zero hn0, (fun b hb => (ho2.lt hb).1), hq1.ext he2, (fun z hz => by rw [List.eq_of_mem_replicate hz]; decide), by simp, by rw [List.take_of_length_le (by simp), bh], by rw [List.drop_length, List.drop_of_length_le (by simp)]; simp [val], he1.trans he2, he2.size⟩ ?_
    rintro ⟨rs, i'⟩ h3 ⟨j, r, qs, hi, hj, hr, hrn, hrb, hoq, hlq, hqlen, hq0, hqv, hext, hsz⟩
    simp only at hi hr hrb
    subst hi
    dsimp only
    refine ⟨fun hge => ?_, fun hlt => ?_⟩
    · simp only [ge_iff_le, decide_eq_true_eq] at hge
      have hj1 : j - 1 < xs.length := by omega
      refine RI.ld (x1.ext hext) (j := j - 1) (by omega) hj1 ?_
      have hxj := x2.get hj1
      have hdx := bw (b := 10) xs (j - 1) hj1
      rw [show j - 1 + 1 = j from by omega, hqv] at hdx
      generalize xs[j - 1] = xj at *
      obtain ⟨rl, r1, r2, r3, r4⟩ := hr
      have hrl : rl.length ≤ E := fh (b := 10) (by decide) r3 (by rw [r4]; exact Nat.lt_trans hrn hyb)
      refine newN (kd := .i64) (ms := [xj]) rfl fun h4 ho4 he4 hs4 => ?_
      refine ho4.append (by omega) (r1.ext he4) (ur _) (by simp; omega) fun s5 h5 ho5 hk5 _ => ?_
      have he5 : Ext h3 h5 := Keep.own he4 ho4 (Nat.le_refl _) hk5
      have hrv : val 10 ([xj] ++ rl) = xj + 10 * r := by rw [← r4]; rfl
      have hrlim : Lim 10 ([xj] ++ rl) := Lim.append (by intro z hz; simp at hz; omega) r2
      refine CutD ho5.r hrlim (by simp; omega) fun s6 hs6 hb6 => ?_
      rw [hrv] at hs6
      have hs6b : ∀ b, s6.blk = some b → h1.size ≤ b := fun b hb => by
        rw [hb6] at hb
        have := (ho5.lt hb).1
        omega
      -- q's place is nought as yet
      have hj1q : j - 1 < qs.length := by omega
      have htq := aE (b := 10) qs (j - 1) hj1q
      rw [show j - 1 + 1 = j from by omega, hq0] at htq
      have hq0' : val 10 (qs.take (j - 1)) = 0 := by omega
      have hdq : ∀ t, val 10 ((qs.set (j - 1) t).drop (j - 1)) = t + 10 * val 10 (qs.drop j) := fun t => by
        have h1 : j - 1 < (qs.set (j - 1) t).length := by simpa using hj1q
        rw [bw _ _ h1, List.getElem_set_self, show j - 1 + 1 = j from by omega, List.drop_set_of_lt (by omega)]
      have hqj : qs[j - 1] = 0 := by
        have : 10 ^ (j - 1) * qs[j - 1] = 0 := by omega
        rcases Nat.mul_eq_zero.1 this with h | h
        · exact absurd h (Nat.pos_iff_ne_zero.1 (Nat.pow_pos (by decide)))
        · exact h
      have hqset : qs.set (j - 1) 0 = qs := by
        rw [← hqj]; exact List.set_getElem_self _
      have hqk : OwnI .i64 h.size h5 qv qs := hoq.ext he5
      refine loop.inv (fun s h' => ∃ (t p : Nat), DN h' s p ∧ p + t * n = xj + 10 * r ∧ (∀ b, s.blk = some b → h1.size ≤ b) ∧ OwnI .i64 h.size h' qv (qs.set (j - 1) t) ∧ Ext h h' ∧ h1.size ≤ h'.size) (fun s h' => numD h' s)
        ⟨0, xj + 10 * r, hs6, by omega, hs6b, by rw [hqset]; exact hqk, hext.trans he5, Nat.le_trans hsz he5.size⟩ ?_
      rintro s h6 ⟨t, p, hp, hpt, hsb, hoq6, hext6, hsz6⟩
      have ht9 : t ≤ 9 := by
        rcases Nat.lt_or_ge t 10 with h | h
        · omega
        · have : 10 * n ≤ t * n := Nat.mul_le_mul_right n h
          omega
      have hpl : s.len ≤ E + 1 := hp.len_le (by
        have : p ≤ xj + 10 * r := by omega
        have h2 : (10 : Nat) ^ (E + 1) = 10 * 10 ^ E := by rw [Nat.pow_succ, Nat.mul_comm]
        rw [h2]
        have h3 : 10 * n ≤ 10 * 10 ^ E := Nat.mul_le_mul_left _ (Nat.le_of_lt hyb)
        exact Nat.lt_of_lt_of_le (show p < 10 * n by omega) h3)
      rw [qY hp]
      refine jJ hp (hdy.ext hext6) (by omega) ?_
      rw [ug]
      refine ⟨fun hge2 => ?_, fun hlt2 => ?_⟩
      · simp only [decide_eq_true_eq] at hge2
        refine j7 hp (hdy.ext hext6) (by omega) fun s7 h7 hs7 he7 hb7 => ?_
        have hoq7 := hoq6.ext he7
        have hjs : j - 1 < (qs.set (j - 1) t).length := by simpa using hj1q
        refine RI.ld hoq7.r (j := j - 1) (by omega) hjs ?_
        rw [List.getElem_set_self, w64 (n := (t : Int) + 1) (by omega) (by omega)]
        refine Own.st hoq7 (j := j - 1) (m := t + 1) (by omega) hjs (by omega) fun h8 ho8 hk8 hs8 => ?_
        rw [List.set_set] at ho8
        have hs7' : DN h8 s7 (p - n) := hs7.keepO hk8 (fun b hb => by
          have h1 := hb7 b hb
          intro he
          have := hqb b he
          omega)
        have hext8 : Ext h h8 := Keep.own (hext6.trans he7) hoq7 (Nat.le_refl _) hk8
        have hs7sz := he7.size
        refine ⟨⟨t + 1, p - n, hs7', ?_, fun b hb => ?_, ho8, hext8, by omega⟩, ?_⟩
        · rw [Nat.add_mul, Nat.one_mul]; omega
        · have := hb7 b hb; omega
        · rw [qY hs7']; omega
      · simp only [decide_eq_false_iff_not] at hlt2
        rintro i1 rfl
        rw [w64 (by omega) (by omega)]
        refine ⟨⟨j - 1, p, qs.set (j - 1) t, by omega, by omega, hp, by omega, hsb, hoq6, hlq.set _ (by omega), by simpa using hqlen, ?_, ?_, hext6, hsz6⟩, by omega⟩
        · rw [List.take_set_of_le (Nat.le_refl _)]; exact hq0'
        · rw [hdx, hdq, Nat.add_mul, Nat.mul_add, Nat.mul_assoc 10]; omega
    · simp only [ge_iff_le, decide_eq_false_iff_not] at hlt
      have hj0 : j = 0 := by omega
      subst hj0
      rw [List.drop_zero, List.drop_zero, x4] at hqv
      have hdm : m / n = val 10 qs ∧ m % n = r := by
        rw [hqv, Nat.mul_comm]
        have hnp := Nat.pos_of_ne_zero hn0
        exact ⟨by rw [Nat.mul_add_div hnp, Nat.div_eq_of_lt hrn, Nat.add_zero], by rw [Nat.mul_add_mod, Nat.mod_eq_of_lt hrn]⟩
      refine CutD hoq.r hlq (by omega) fun q hq _ => K hn0 q rs h3 (by rw [hdm.1]; exact hq) (by rw [hdm.2]; exact hr) hext
theorem yu {E : Nat} {x y : Sl} {m n : Nat} {h : Heap} {Q : Sl → Heap → Prop} (hE : E ≤ 100000000) (hx : DN h x m) (hy : DN h y n) (hm : m < 10 ^ E) (hn : n < 10 ^ E)
    (K : ∀ r h', DN h' r (Nat.gcd m n) → Ext h h' → Q r h') : iJ x y h Q := by
  unfold iJ
  refine loop.inv (fun s h' => ∃ a b : Nat, DN h' s.1 a ∧ DN h' s.2 b ∧ a < 10 ^ E ∧ b < 10 ^ E ∧ Nat.gcd a b = Nat.gcd m n ∧ Ext h h') (fun s h' => numD h' s.2) ⟨m, n, hx, hy, hm, hn, rfl, Keep.refl _ _⟩ ?_
  rintro ⟨s1, s2⟩ h1 ⟨a, b, ha, hb, hab, hbb, hg, hext⟩
  simp only at ha hb
  dsimp only
  rw [qY hb]
  have la := ha.len_le hab
  have lb := hb.len_le hbb
  refine ⟨fun hgt => ?_, fun hle => ?_⟩
  · simp only [gt_iff_lt, decide_eq_true_eq] at hgt
    have hb0 : b ≠ 0 := fun h => by have := hb.len_zero.2 h; omega
    refine j6 ha hb (by omega) (by omega) (fun h => absurd h hb0) fun _ q r h2 _ hr he2 => ?_
    dsimp only
    have hlt := Nat.mod_lt a (Nat.pos_of_ne_zero hb0)
    refine ⟨⟨b, a % b, hb.ext he2, hr, hbb, Nat.lt_trans hlt hbb, ?_, hext.trans he2⟩, by rw [qY hr]; exact hlt⟩
    rw [← hg, Nat.gcd_comm a b, Nat.gcd_rec b a, Nat.gcd_comm]
  · simp only [gt_iff_lt, decide_eq_false_iff_not] at hle
    have hb0 : b = 0 := hb.len_zero.1 (by omega)
    subst hb0
    rw [Nat.gcd_zero_right] at hg
    exact K s1 h1 (by rw [← hg]; exact ha) hext
theorem zi {x : Sl} {n : Nat} {h : Heap} {Q : Sl → Heap → Prop} (hx : DN h x n) (hl : x.len ≤ 100000000) (hn : nl n ≤ 2200000)
    (K : ∀ r h', NN h' r n → Ext h h' → Q r h') : cM x h Q := by
  obtain ⟨xs, x1, x2, x3, x4⟩ := hx
  refine wd x1 x2 (by rw [← x1.len]; exact hl) (by rw [x4]; exact hn) fun r h' hr he _ => K r h' (by rw [← x4]; exact hr) he
end Go.Sh

namespace Go.Sh
open Go Go.Lift
theorem nH {n k : Nat} (h : nl n ≤ k) : n < 10 ^ (10 * k) := by
  have h1 : n < 4294967296 ^ k := gA.1 h
  have h2 : (4294967296 : Nat) ^ k ≤ (10 ^ 10) ^ k := Nat.pow_le_pow_left (by decide) k
  rw [← Nat.pow_mul] at h2
  exact Nat.lt_of_lt_of_le h1 h2
theorem DN.len_nl {h : Heap} {s : Sl} {n k : Nat} (hn : DN h s n) (hk : nl n ≤ k) : s.len ≤ 10 * k := hn.len_le (nH hk)
end Go.Sh

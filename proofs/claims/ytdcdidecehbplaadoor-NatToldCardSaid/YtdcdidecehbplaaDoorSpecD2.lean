/- Laws that the proof of this claim's statement leans on, each proved under the conditions that it states. -/
import Derived.Test.YtdcdidecehbplaaDoorSpecD1
set_option linter.unusedVariables false
set_option linter.unusedSimpArgs false
namespace Go.Sh
open Go Go.Lift

theorem Add10uspec {x y : Sl} {m n : Nat} {h : Heap} {Q : Sl → Heap → Prop} (hx : DN h x m) (hy : DN h y n) (hxl : x.len ≤ 100000) (hyl : y.len ≤ 100000)
    (K : ∀ r h', DN h' r (m + n) → Ext h h' → (∀ b, r.blk = some b → h.size ≤ b) → Q r h') : ref01uAdd x y h Q := by
  obtain ⟨xs, x1, x2, x3, x4⟩ := hx
  obtain ⟨ys, y1, y2, y3, y4⟩ := hy
  have lx := x1.len
  have ly := y1.len
  unfold ref01uAdd
  refine newN (kd := .i64) (ms := []) rfl fun h0 ho he _ => ?_
  rintro out rfl
  refine loop.inv (fun s h' => ∃ (zs : List Nat) (c i : Nat), s.2.1 = (c : Int) ∧ s.2.2 = (i : Int) ∧ OwnI .i64 h.size h' s.1 zs ∧ Lim 10 zs ∧ zs.length = i ∧ c ≤ 1 ∧ i + c ≤ max xs.length ys.length + 1 ∧
      val 10 zs + 10 ^ i * c = val 10 (xs.take i) + val 10 (ys.take i) ∧ Ext h h') (fun s _ => 2 * (max xs.length ys.length - s.2.2.toNat) + s.2.1.toNat) ⟨[], 0, 0, rfl, rfl, ho, Lim.nil, rfl, by omega, by omega, by simp [val], he⟩ ?_
  rintro ⟨o, carry, i'⟩ h' ⟨zs, c, i, hcc, hii, hoz, hzl, hzlen, hc1, hile, hval, hext⟩
  simp only at hcc hii hoz
  subst hcc hii
  dsimp only
  refine seq.cut (fun b h'' => h'' = h' ∧ b = decide (i < max xs.length ys.length ∨ 0 < c)) ?_ ?_
  · refine ⟨fun h1 => ?_, fun h1 => ⟨fun h2 => ?_, fun h2 => ?_⟩⟩
    · simp only [decide_eq_true_eq] at h1
      exact ⟨rfl, by simp; omega⟩
    · simp only [decide_eq_true_eq] at h2
      exact ⟨rfl, by simp; omega⟩
    · simp only [decide_eq_false_iff_not] at h1 h2
      exact ⟨rfl, decide_eq_decide.2 (by omega)⟩
  rintro b h'' ⟨rfl, rfl⟩
  refine ⟨fun hgo => ?_, fun hstop => ?_⟩
  · simp only [decide_eq_true_eq] at hgo
    have gx := Lim.getD x2 (by decide) i
    have gy := Lim.getD y2 (by decide) i
    refine seq.cut (fun n1 h3 => h3 = h'' ∧ n1 = ((c + xs.getD i 0 : Nat) : Int)) ?_ ?_
    · refine ⟨fun h1 => ?_, fun h1 => ?_⟩
      · simp only [decide_eq_true_eq] at h1
        have hi : i < xs.length := by omega
        refine RI.ld (x1.ext hext) (j := i) rfl hi ?_
        have hg := x2.get hi
        rintro z rfl
        rw [w64 (by omega) (by omega)]
        exact ⟨rfl, by simp [hi]⟩
      · simp only [decide_eq_false_iff_not] at h1
        have : xs.getD i 0 = 0 := by simp [List.getElem?_eq_none (show xs.length ≤ i by omega)]
        exact ⟨rfl, by rw [this]; rfl⟩
    rintro n1 h3 ⟨rfl, rfl⟩
    refine seq.cut (fun n2 h4 => h4 = h3 ∧ n2 = ((c + xs.getD i 0 + ys.getD i 0 : Nat) : Int)) ?_ ?_
    · refine ⟨fun h1 => ?_, fun h1 => ?_⟩
      · simp only [decide_eq_true_eq] at h1
        have hi : i < ys.length := by omega
        refine RI.ld (y1.ext hext) (j := i) rfl hi ?_
        have hg := y2.get hi
        rintro z rfl
        rw [w64 (by omega) (by omega)]
        exact ⟨rfl, by simp [hi]⟩
      · simp only [decide_eq_false_iff_not] at h1
        have : ys.getD i 0 = 0 := by simp [List.getElem?_eq_none (show ys.length ≤ i by omega)]
        exact ⟨rfl, by rw [this]; rfl⟩
    rintro n2 h4 ⟨rfl, rfl⟩
    generalize hsum : c + xs.getD i 0 + ys.getD i 0 = t at *
    have ht : t < 20 := by omega
    have e1 : Int.tmod (t : Int) 10 = ((t % 10 : Nat) : Int) := rfl
    have e2 : Int.tdiv (t : Int) 10 = ((t / 10 : Nat) : Int) := rfl
    rw [e1, e2]
    refine app1 (m := t % 10) rfl hoz hext.size (by omega) fun s' h5 ho5 hk5 _ => ?_
    rintro c2 rfl i2 rfl
    rw [w64 (by omega) (by omega), w64 (n := (i : Int) + 1) (by omega) (by omega)]
    have hover : max xs.length ys.length ≤ i → t = c := fun hm => by
      have h1 : xs.getD i 0 = 0 := by simp [List.getElem?_eq_none (show xs.length ≤ i by omega)]
      have h2 : ys.getD i 0 = 0 := by simp [List.getElem?_eq_none (show ys.length ≤ i by omega)]
      omega
    refine ⟨⟨zs ++ [t % 10], t / 10, i + 1, rfl, by omega, ho5, hzl.snoc (Nat.mod_lt _ (by decide)), by simp [hzlen], by omega, ?_, ?_, Keep.own hext hoz (Nat.le_refl _) hk5⟩, ?_⟩
    · rcases Nat.lt_or_ge i (max xs.length ys.length) with h | h
      · omega
      · have := hover h; omega
    · rw [val_snoc, hzlen, val_take_getD, val_take_getD, Nat.pow_succ]
      have e1 : 10 ^ i * (t % 10) + 10 ^ i * 10 * (t / 10) = 10 ^ i * t := by
        rw [Nat.mul_assoc, ← Nat.mul_add, Nat.mod_add_div]
      have e2 : 10 ^ i * t = 10 ^ i * c + 10 ^ i * xs.getD i 0 + 10 ^ i * ys.getD i 0 := by
        rw [← hsum, Nat.mul_add, Nat.mul_add]
      omega
    · rcases Nat.lt_or_ge i (max xs.length ys.length) with h | h
      · omega
      · have := hover h; omega
  · simp only [decide_eq_false_iff_not] at hstop
    have hc0 : c = 0 := by omega
    subst hc0
    rw [take_all_val _ _ (by omega), take_all_val _ _ (by omega), x4, y4, Nat.mul_zero, Nat.add_zero] at hval
    refine CutD hoz.r hzl (by omega) fun r hr hbl => K r h'' (by rw [← hval]; exact hr) hext (fun b hb => ?_)
    rw [hbl] at hb
    exact (hoz.lt hb).1

theorem Sub10uspec {x y : Sl} {m n : Nat} {h : Heap} {Q : Sl → Heap → Prop} (hx : DN h x m) (hy : DN h y n) (hxl : x.len ≤ 1000000)
    (K : ∀ r h', DN h' r (m - n) → Ext h h' → (∀ b, r.blk = some b → h.size ≤ b) → Q r h') : ref01uSub x y h Q := by
  unfold ref01uSub
  refine Cmp10uspec hx hy (by omega) ⟨fun hlt => ?_, fun hge => ?_⟩
  · simp only [decide_eq_true_eq] at hlt
    have hmn : m < n := by
      unfold cmpI at hlt
      split at hlt
      · assumption
      · split at hlt <;> simp at hlt
    refine newN (kd := .i64) (ms := []) rfl fun h0 ho he _ => ?_
    exact K _ h0 ⟨[], ho.r, Lim.nil, Nrm.nil, by rw [val_nil]; omega⟩ he (fun b hb => (ho.lt hb).1)
  · simp only [decide_eq_false_iff_not] at hge
    have hnm : n ≤ m := by
      unfold cmpI at hge
      split at hge
      · simp at hge
      · omega
    obtain ⟨xs, x1, x2, x3, x4⟩ := hx
    obtain ⟨ys, y1, y2, y3, y4⟩ := hy
    have lx := x1.len
    have ly := y1.len
    have hyx : ys.length ≤ xs.length := len_le_of_val (b := 10) (by decide) y3 (by rw [y4]; have := val_lt x2; omega)
    refine newN (kd := .i64) (ms := []) rfl fun h0 ho he _ => ?_
    rintro out rfl
    refine loop.inv (fun s h' => ∃ (zs : List Nat) (c i : Nat), s.2.1 = (c : Int) ∧ s.2.2 = (i : Int) ∧ OwnI .i64 h.size h' s.1 zs ∧ Lim 10 zs ∧ zs.length = i ∧ i ≤ xs.length ∧ c ≤ 1 ∧
        val 10 (xs.take i) + 10 ^ i * c = val 10 zs + val 10 (ys.take i) ∧ Ext h h') (fun s _ => xs.length - s.2.2.toNat) ⟨[], 0, 0, rfl, rfl, ho, Lim.nil, rfl, by omega, by omega, by simp [val], he⟩ ?_
    rintro ⟨o, carry, i'⟩ h' ⟨zs, c, i, hcc, hii, hoz, hzl, hzlen, hile, hc1, hval, hext⟩
    simp only at hcc hii hoz
    subst hcc hii
    dsimp only
    refine ⟨fun hlt => ?_, fun hge2 => ?_⟩
    · simp only [decide_eq_true_eq] at hlt
      have hi : i < xs.length := by omega
      refine RI.ld (x1.ext hext) (j := i) rfl hi ?_
      have hxi := x2.get hi
      have hts := val_take_succ (b := 10) xs i hi
      have gy := Lim.getD y2 (by decide) i
      generalize xs[i] = xi at *
      rintro n0 rfl
      rw [w64 (by omega) (by omega)]
      refine seq.cut (fun n2 h4 => h4 = h' ∧ n2 = (xi : Int) - (c : Int) - (ys.getD i 0 : Nat)) ?_ ?_
      · refine ⟨fun h1 => ?_, fun h1 => ?_⟩
        · simp only [decide_eq_true_eq] at h1
          have hi : i < ys.length := by omega
          refine RI.ld (y1.ext hext) (j := i) rfl hi ?_
          have hg := y2.get hi
          rintro z rfl
          rw [w64 (by omega) (by omega)]
          exact ⟨rfl, by simp [hi]⟩
        · simp only [decide_eq_false_iff_not] at h1
          have : ys.getD i 0 = 0 := by simp [List.getElem?_eq_none (show ys.length ≤ i by omega)]
          exact ⟨rfl, by rw [this]; simp⟩
      rintro n2 h4 ⟨rfl, rfl⟩
      have hys := val_take_getD (b := 10) ys i
      generalize ys.getD i 0 = yi at *
      refine seq.cut (fun t h5 => h5 = h4 ∧ ∃ c2 d : Nat, t = ((c2 : Int), (d : Int)) ∧ c2 ≤ 1 ∧ d < 10 ∧ xi + 10 * c2 = d + c + yi) ?_ ?_
      · refine ⟨fun h1 => ?_, fun h1 => ?_⟩
        · simp only [decide_eq_true_eq] at h1
          rintro z rfl
          rw [w64 (by omega) (by omega)]
          refine ⟨rfl, 1, xi + 10 - c - yi, ?_, by omega, by omega, by omega⟩
          congr 1
          omega
        · simp only [decide_eq_false_iff_not] at h1
          refine ⟨rfl, 0, xi - c - yi, ?_, by omega, by omega, by omega⟩
          congr 1
          omega
      rintro t h5 ⟨rfl, c2, d, rfl, hc2, hd, heq⟩
      dsimp only
      refine app1 (m := d) rfl hoz hext.size (by omega) fun s' h6 ho6 hk6 _ => ?_
      rintro i2 rfl
      rw [w64 (by omega) (by omega)]
      refine ⟨⟨zs ++ [d], c2, i + 1, rfl, by omega, ho6, hzl.snoc hd, by simp [hzlen], by omega, hc2, ?_, Keep.own hext hoz (Nat.le_refl _) hk6⟩, by omega⟩
      rw [val_snoc, hzlen, hts, hys, Nat.pow_succ]
      have e1 : 10 ^ i * (xi + 10 * c2) = 10 ^ i * (d + c + yi) := by rw [heq]
      simp only [Nat.mul_add] at e1
      have e2 : 10 ^ i * (10 * c2) = 10 ^ i * 10 * c2 := by rw [Nat.mul_assoc]
      omega
    · simp only [decide_eq_false_iff_not] at hge2
      have hi : i = xs.length := by omega
      subst hi
      rw [List.take_length, List.take_of_length_le hyx, x4, y4] at hval
      have hzb := val_lt hzl
      rw [hzlen] at hzb
      have hc0 : c = 0 := by
        rcases Nat.lt_or_ge c 1 with h | h
        · omega
        · have : c = 1 := by omega
          subst this
          have := Nat.mul_one (10 ^ xs.length)
          omega
      subst hc0
      rw [Nat.mul_zero, Nat.add_zero] at hval
      have hv : val 10 zs = m - n := by omega
      refine CutD hoz.r hzl (by omega) fun r hr hbl => K r h' (by rw [← hv]; exact hr) hext (fun b hb => ?_)
      rw [hbl] at hb
      exact (hoz.lt hb).1
end Go.Sh

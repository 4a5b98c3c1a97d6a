/-
  Laws that the proof of this claim's statement leans on, each proved under the conditions that it states.
-/
import Derived.Test.YtjppcjbmepcneaaDoorSpG
set_option linter.unusedVariables false
set_option linter.unusedSimpArgs false
namespace Go.Sh
open Go Go.Lift

end Go.Sh

namespace Go.Sh
open Go Go.Lift

/-- A number in decimal digits, in its one form. -/
def DN (h : Heap) (s : Sl) (n : Nat) : Prop := ∃ xs, RI .i64 h s xs ∧ Lim 10 xs ∧ Nrm xs ∧ val 10 xs = n
theorem DN.ext {h h' : Heap} {s : Sl} {n : Nat} (hn : DN h s n) (k : Ext h h') : DN h' s n := by
  obtain ⟨xs, h1, h2⟩ := hn
  exact ⟨xs, h1.ext k, h2⟩
theorem DN.keepO {h h' : Heap} {s : Sl} {n : Nat} {o : Option Nat} (hn : DN h s n) (k : Keep o h h') (hne : ∀ b, s.blk = some b → o ≠ some b) : DN h' s n := by
  obtain ⟨xs, h1, h2⟩ := hn
  exact ⟨xs, h1.keep k (fun a ha => fun e => hne a.block (by simp [Sl.blk, ha]) e.symm), h2⟩
theorem DN.len_le {h : Heap} {s : Sl} {n k : Nat} (hn : DN h s n) (hk : n < 10 ^ k) : s.len ≤ k := by
  obtain ⟨xs, h1, h2, h3, h4⟩ := hn
  rw [h1.len]
  exact len_le_of_val (b := 10) (by decide) h3 (by rw [h4]; exact hk)
theorem DN.len_zero {h : Heap} {s : Sl} {n : Nat} (hs : DN h s n) : s.len = 0 ↔ n = 0 := by
  obtain ⟨xs, h1, h2, h3, h4⟩ := hs
  rw [h1.len]
  constructor
  · intro h; have := List.eq_nil_of_length_eq_zero h; subst this; exact h4.symm
  · intro h; subst h; rw [val_zero (by decide) h3 h4]; rfl
theorem CutD {x : Sl} {xs : List Nat} {h : Heap} {Q : Sl → Heap → Prop} (hx : RI .i64 h x xs) (hl : Lim 10 xs) (hb : xs.length ≤ 100000000000)
    (K : ∀ r, DN h r (val 10 xs) → r.blk = x.blk → Q r h) : ref01uCut x h Q :=
  Cut_spec hx hb fun r ys hr hpre hn hv hbl => K r ⟨ys, hr, by rw [hpre]; exact hl.take _, hn, hv⟩ hbl

theorem Of10uspec {x : Sl} {xs : List Nat} {h : Heap} {Q : Sl → Heap → Prop} (hx : RI .u32 h x xs) (hl : Lim 4294967296 xs) (hb : xs.length ≤ 2200000)
    (K : ∀ r h', DN h' r (val 4294967296 xs) → Ext h h' → (∀ b, r.blk = some b → h.size ≤ b) → Q r h') : ref01uOf x h Q := by
  unfold ref01uOf
  have lx := hx.len
  refine newN (kd := .i64) (ms := []) rfl fun h0 ho he _ => ?_
  rintro out rfl i rfl
  rw [w64 (n := (x.len : Int) - 1) (by omega) (by omega)]
  refine loop.inv (fun s h' => ∃ (j : Nat) (zs : List Nat), s.2 = (j : Int) - 1 ∧ j ≤ xs.length ∧ OwnI .i64 h.size h' s.1 zs ∧ Lim 10 zs ∧ val 10 zs = val 4294967296 (xs.drop j) ∧ zs.length ≤ 10 * (xs.length - j) ∧ Ext h h') (fun s _ => (s.2 + 1).toNat)
    ⟨xs.length, [], by dsimp only; omega, by omega, ho, Lim.nil, by simp [val], by simp, he⟩ ?_
  rintro ⟨o, i'⟩ h1 ⟨j, zs, hi, hj, hoz, hzl, hzv, hzlen, hext⟩
  simp only at hi hoz
  subst hi
  dsimp only
  refine ⟨fun hge => ?_, fun hlt => ?_⟩
  · simp only [ge_iff_le, decide_eq_true_eq] at hge
    have hj1 : j - 1 < xs.length := by omega
    refine RI.ld (hx.ext hext) (j := j - 1) (by omega) hj1 ?_
    have hxj := hl.get hj1
    have hdr := val_drop (b := 4294967296) xs (j - 1) hj1
    rw [show j - 1 + 1 = j from by omega, ← hzv] at hdr
    generalize xs[j - 1] = xj at *
    have lz := hoz.r.len
    rintro carry rfl
    rw [w64 (n := (xj : Int)) (by omega) (by omega)]
    refine loop.inv (fun s h' => ∃ (k c : Nat) (ys : List Nat), s.1 = (c : Int) ∧ s.2 = (k : Int) ∧ k ≤ zs.length ∧ c < 4294967296 ∧ OwnI .i64 h.size h' o ys ∧ Lim 10 ys ∧ ys.length = zs.length ∧
        val 10 (ys.take k) + 10 ^ k * c = 4294967296 * val 10 (zs.take k) + xj ∧ ys.drop k = zs.drop k ∧ Ext h h') (fun s _ => zs.length - s.2.toNat)
      ⟨0, xj, zs, rfl, rfl, by omega, hxj, hoz, hzl, rfl, by simp [val], rfl, hext⟩ ?_
    rintro ⟨c', k'⟩ h2 ⟨k, c, ys, hc, hk, hkl, hcb, hoy, hyl, hylen, hyv, hyd, hext2⟩
    simp only at hc hk
    subst hc hk
    dsimp only
    refine ⟨fun hlt2 => ?_, fun hge2 => ?_⟩
    · simp only [decide_eq_true_eq] at hlt2
      have hkn : k < ys.length := by omega
      have hkz : k < zs.length := by omega
      refine RI.ld hoy.r (j := k) rfl hkn ?_
      have hyk := hyl.get hkn
      have hdd : ys[k] = zs[k] ∧ ys.drop (k + 1) = zs.drop (k + 1) := by
        have h1 := List.drop_eq_getElem_cons hkn
        have h2 := List.drop_eq_getElem_cons hkz
        rw [hyd, h2] at h1
        simp only [List.cons.injEq] at h1
        exact ⟨h1.1.symm, h1.2.symm⟩
      have hsz := val_take_succ (b := 10) zs k hkz
      rw [← hdd.1] at hsz
      generalize hye : ys[k] = yk at *
      rintro nn rfl
      rw [w64 (n := (yk : Int) * 4294967296) (by omega) (by omega), w64 (n := (yk : Int) * 4294967296 + (c : Int)) (by omega) (by omega)]
      have e0 : (yk : Int) * 4294967296 + (c : Int) = ((yk * 4294967296 + c : Nat) : Int) := by simp
      have e1 : Int.tmod ((yk : Int) * 4294967296 + (c : Int)) 10 = (((yk * 4294967296 + c) % 10 : Nat) : Int) := by rw [e0]; rfl
      have e2 : Int.tdiv ((yk : Int) * 4294967296 + (c : Int)) 10 = (((yk * 4294967296 + c) / 10 : Nat) : Int) := by rw [e0]; rfl
      rw [e1, e2]
      refine Own.st hoy (j := k) (m := (yk * 4294967296 + c) % 10) rfl hkn rfl fun h3 ho3 hk3 _ => ?_
      rintro c1 rfl k1 rfl
      rw [w64 (by omega) (by omega), w64 (n := (k : Int) + 1) (by omega) (by omega)]
      refine ⟨⟨k + 1, (yk * 4294967296 + c) / 10, _, rfl, by omega, by omega, by omega, ho3, hyl.set _ (Nat.mod_lt _ (by decide)), by simpa using hylen, ?_, ?_, Keep.own hext2 hoy (Nat.le_refl _) hk3⟩, by omega⟩
      · have hlt3 : k < (ys.set k ((yk * 4294967296 + c) % 10)).length := by simpa using hkn
        rw [val_take_succ _ k hlt3, List.take_set_of_le (Nat.le_refl _), List.getElem_set_self, hsz, Nat.pow_succ]
        have e3 : 10 ^ k * ((yk * 4294967296 + c) % 10) + 10 ^ k * 10 * ((yk * 4294967296 + c) / 10) = 10 ^ k * (yk * 4294967296 + c) := by
          rw [Nat.mul_assoc, ← Nat.mul_add, Nat.mod_add_div]
        have e4 : 10 ^ k * (yk * 4294967296 + c) = 4294967296 * (10 ^ k * yk) + 10 ^ k * c := by
          rw [Nat.mul_add, ← Nat.mul_assoc, Nat.mul_comm (10 ^ k * yk) 4294967296]
        omega
      · rw [List.drop_set_of_lt (by omega)]; exact hdd.2
    · simp only [decide_eq_false_iff_not] at hge2
      have hk : k = zs.length := by omega
      subst hk
      rw [List.take_of_length_le (by omega), List.take_length] at hyv
      refine loop.inv (fun s h' => ∃ (p d : Nat) (ws : List Nat), s.2 = (d : Int) ∧ p ≤ 10 ∧ d < 10 ^ (10 - p) ∧ OwnI .i64 h.size h' s.1 ws ∧ Lim 10 ws ∧ ws.length = zs.length + p ∧
          val 10 ws + 10 ^ ws.length * d = val 10 ys + 10 ^ zs.length * c ∧ Ext h h') (fun s _ => s.2.toNat)
        ⟨0, c, ys, rfl, by omega, by simp; omega, hoy, hyl, hylen, by rw [hylen], hext2⟩ ?_
      rintro ⟨o2, d'⟩ h3 ⟨p, d, ws, hd, hp, hdp, how, hwl, hwlen, hwv, hext3⟩
      simp only at hd how
      subst hd
      dsimp only
      refine ⟨fun hd0 => ?_, fun hd0 => ?_⟩
      · simp only [gt_iff_lt, decide_eq_true_eq] at hd0
        have hp9 : p < 10 := by
          rcases Nat.lt_or_ge p 10 with h | h
          · exact h
          · have : p = 10 := by omega
            subst this; simp at hdp; omega
        have hpow : (10 : Nat) ^ (10 - p) = 10 * 10 ^ (10 - (p + 1)) := by rw [← Nat.pow_succ']; congr 1; omega
        have e1 : Int.tmod (d : Int) 10 = ((d % 10 : Nat) : Int) := rfl
        have e2 : Int.tdiv (d : Int) 10 = ((d / 10 : Nat) : Int) := rfl
        have hdb : (10 : Nat) ^ (10 - p) ≤ 10 ^ 10 := Nat.pow_le_pow_right (by decide) (by omega)
        rw [e1, e2]
        refine app1 (m := d % 10) rfl how hext3.size (by omega) fun s' h4 ho4 hk4 _ => ?_
        rintro c2 rfl
        rw [w64 (by omega) (by omega)]
        refine ⟨⟨p + 1, d / 10, _, rfl, by omega, by omega, ho4, hwl.snoc (Nat.mod_lt _ (by decide)), by simp; omega, ?_, Keep.own hext3 how (Nat.le_refl _) hk4⟩, by omega⟩
        rw [val_snoc, List.length_append, List.length_singleton, Nat.pow_succ, ← hwv, Nat.add_assoc, Nat.mul_assoc, ← Nat.mul_add, Nat.mod_add_div]
      · simp only [gt_iff_lt, decide_eq_false_iff_not] at hd0
        have hd0' : d = 0 := by omega
        subst hd0'
        rintro i1 rfl
        rw [w64 (by omega) (by omega)]
        refine ⟨⟨j - 1, ws, by omega, by omega, how, hwl, by omega, by omega, hext3⟩, by omega⟩
  · simp only [ge_iff_le, decide_eq_false_iff_not] at hlt
    have hj0 : j = 0 := by omega
    subst hj0
    rw [List.drop_zero] at hzv
    refine CutD hoz.r hzl (by omega) fun r hr hbl => K r h1 (by rw [← hzv]; exact hr) hext (fun b hb => ?_)
    rw [hbl] at hb
    exact (hoz.lt hb).1

theorem Cmp10uspec {x y : Sl} {m n : Nat} {h : Heap} {Q : Int → Heap → Prop} (hx : DN h x m) (hy : DN h y n) (hxl : x.len ≤ 100000000000) (K : Q (cmpI m n) h) : ref01uCmp x y h Q := by
  unfold ref01uCmp
  obtain ⟨xs, x1, x2, x3, x4⟩ := hx
  obtain ⟨ys, y1, y2, y3, y4⟩ := hy
  have lx := x1.len
  have ly := y1.len
  have short : ∀ {as bs : List Nat}, Lim 10 as → Lim 10 bs → Nrm bs → as.length < bs.length → val 10 as < val 10 bs := by
    intro as bs ha hb hn hl
    have h1 := val_lt ha
    have h2 := val_ge (b := 10) (by decide) hn (by intro h; subst h; simp at hl)
    have h3 : 10 ^ as.length ≤ 10 ^ (bs.length - 1) := Nat.pow_le_pow_right (by decide) (by omega)
    omega
  have less : m < n → Q (-1) h := fun hl => by
    have : cmpI m n = -1 := by unfold cmpI; rw [if_pos hl]
    rw [this] at K; exact K
  have more : n < m → Q 1 h := fun hl => by
    have : cmpI m n = 1 := by unfold cmpI; rw [if_neg (by omega), if_neg (by omega)]
    rw [this] at K; exact K
  refine ⟨fun hne => ⟨fun hlt => ?_, fun hge => ?_⟩, fun heq => ?_⟩
  · simp only [decide_eq_true_eq] at hlt
    have := short x2 y2 y3 (by omega)
    exact less (by omega)
  · simp only [bne_iff_ne, ne_eq] at hne
    simp only [decide_eq_false_iff_not] at hge
    have := short y2 x2 x3 (by omega)
    exact more (by omega)
  · have hle : xs.length = ys.length := by simp at heq; omega
    rintro i rfl
    rw [w64 (by omega) (by omega)]
    refine loop.inv (fun s h' => h' = h ∧ ∃ j : Nat, s = (j : Int) - 1 ∧ j ≤ xs.length ∧ xs.drop j = ys.drop j) (fun s _ => (s + 1).toNat) ⟨rfl, xs.length, by omega, by omega, by rw [List.drop_length, hle, List.drop_length]⟩ ?_
    rintro s h' ⟨rfl, j, rfl, hjl, hd⟩
    refine ⟨fun hge => ?_, fun hlt => ?_⟩
    · simp only [ge_iff_le, decide_eq_true_eq] at hge
      have hj1 : j - 1 < xs.length := by omega
      have hj2 : j - 1 < ys.length := by omega
      refine RI.ld x1 (j := j - 1) (by omega) hj1 (RI.ld y1 (j := j - 1) (by omega) hj2 ?_)
      have dx := val_drop (b := 10) xs (j - 1) hj1
      have dy := val_drop (b := 10) ys (j - 1) hj2
      have tx := val_take_add (b := 10) xs (j - 1)
      have ty := val_take_add (b := 10) ys (j - 1)
      rw [show j - 1 + 1 = j from by omega] at dx dy
      rw [Nat.min_eq_left (by omega)] at tx ty
      have bx := val_lt (x2.take (j - 1))
      have by' := val_lt (y2.take (j - 1))
      rw [List.length_take, Nat.min_eq_left (by omega)] at bx by'
      have key : ∀ {a b p q A C : Nat}, a < A → b < A → p < q → a + A * (p + C) < b + A * (q + C) := by
        intro a b p q A C h1 h2 h3
        have : A * (p + C + 1) ≤ A * (q + C) := Nat.mul_le_mul_left _ (by omega)
        rw [Nat.mul_add A (p + C) 1] at this
        omega
      rw [hd] at dx
      rw [dx] at tx
      rw [dy] at ty
      refine ⟨fun hl => ?_, fun hl => ?_⟩
      · simp only [decide_eq_true_eq] at hl
        have h1 := key (C := 10 * val 10 (ys.drop j)) bx by' (show xs[j - 1] < ys[j - 1] by omega)
        rw [← tx, ← ty, x4, y4] at h1
        exact less h1
      · simp only [decide_eq_false_iff_not] at hl
        refine RI.ld x1 (j := j - 1) (by omega) hj1 (RI.ld y1 (j := j - 1) (by omega) hj2 ⟨fun hg => ?_, fun hg => ?_⟩)
        · simp only [gt_iff_lt, decide_eq_true_eq] at hg
          have h1 := key (p := ys[j - 1]) (q := xs[j - 1]) (C := 10 * val 10 (ys.drop j)) by' bx (by omega)
          rw [← tx, ← ty, x4, y4] at h1
          exact more h1
        · simp only [gt_iff_lt, decide_eq_false_iff_not] at hg
          rintro i' rfl
          rw [w64 (by omega) (by omega)]
          refine ⟨⟨rfl, j - 1, by omega, by omega, ?_⟩, by omega⟩
          rw [List.drop_eq_getElem_cons hj1, List.drop_eq_getElem_cons hj2, show j - 1 + 1 = j from by omega, hd]
          congr 1
          omega
    · simp only [ge_iff_le, decide_eq_false_iff_not] at hlt
      have hj0 : j = 0 := by omega
      subst hj0
      simp only [List.drop_zero] at hd
      subst hd
      have : cmpI m n = 0 := by
        unfold cmpI
        rw [← x4, ← y4]
        simp
      rw [this] at K; exact K
end Go.Sh

namespace Go.Sh
open Go Go.Lift

theorem Add10uspec {x y : Sl} {m n : Nat} {h : Heap} {Q : Sl → Heap → Prop} (hx : DN h x m) (hy : DN h y n) (hxl : x.len ≤ 100000000) (hyl : y.len ≤ 100000000)
    (K : ∀ r h', DN h' r (m + n) → Ext h h' → (∀ b, r.blk = some b → h.size ≤ b) → Q r h') : ref01uAdd x y h Q := by
  obtain ⟨xs, x1, x2, x3, x4⟩ := hx
  obtain ⟨ys, y1, y2, y3, y4⟩ := hy
  have lx := x1.len
  have ly := y1.len
  unfold ref01uAdd
  refine newN (kd := .i64) (ms := []) rfl fun h0 ho he _ => ?_
  rintro out rfl
  refine loop.inv (fun s h' => ∃ (zs : List Nat) (c i : Nat), s.2.1 = (c : Int) ∧ s.2.2 = (i : Int) ∧ OwnI .i64 h.size h' s.1 zs ∧ Lim 10 zs ∧ zs.length = i ∧ c ≤ 1 ∧ i + c ≤ max xs.length ys.length + 1 ∧
      val 10 zs + 10 ^ i * c = val 10 (xs.take i) + val 10 (ys.take i) ∧ Ext h h') (fun s _ => 2 * (max xs.length ys.length - s.2.2.toNat) + s.2.1.toNat) ⟨[], 0, 0, rfl, rfl, ho, Lim.nil, rfl, by omega, by omega, by simp [val], he⟩ ?_
  rintro ⟨o, carry, i'⟩ h' ⟨zs, c, i, hcc, hii, hoz, hzl, hzlen, hc1, hile, hval, hext⟩
  simp only at hcc hii hoz
  subst hcc hii
  dsimp only
  refine seq.cut (fun b h'' => h'' = h' ∧ b = decide (i < max xs.length ys.length ∨ 0 < c)) ?_ ?_
  · refine ⟨fun h1 => ?_, fun h1 => ⟨fun h2 => ?_, fun h2 => ?_⟩⟩
    · simp only [decide_eq_true_eq] at h1
      exact ⟨rfl, by simp; omega⟩
    · simp only [decide_eq_true_eq] at h2
      exact ⟨rfl, by simp; omega⟩
    · simp only [decide_eq_false_iff_not] at h1 h2
      exact ⟨rfl, decide_eq_decide.2 (by omega)⟩
  rintro b h'' ⟨rfl, rfl⟩
  refine ⟨fun hgo => ?_, fun hstop => ?_⟩
  · simp only [decide_eq_true_eq] at hgo
    have gx := Lim.getD x2 (by decide) i
    have gy := Lim.getD y2 (by decide) i
    refine seq.cut (fun n1 h3 => h3 = h'' ∧ n1 = ((c + xs.getD i 0 : Nat) : Int)) ?_ ?_
    · refine ⟨fun h1 => ?_, fun h1 => ?_⟩
      · simp only [decide_eq_true_eq] at h1
        have hi : i < xs.length := by omega
        refine RI.ld (x1.ext hext) (j := i) rfl hi ?_
        have hg := x2.get hi
        rintro z rfl
        rw [w64 (by omega) (by omega)]
        exact ⟨rfl, by simp [hi]⟩
      · simp only [decide_eq_false_iff_not] at h1
        have : xs.getD i 0 = 0 := by simp [List.getElem?_eq_none (show xs.length ≤ i by omega)]
        exact ⟨rfl, by rw [this]; rfl⟩
    rintro n1 h3 ⟨rfl, rfl⟩
    refine seq.cut (fun n2 h4 => h4 = h3 ∧ n2 = ((c + xs.getD i 0 + ys.getD i 0 : Nat) : Int)) ?_ ?_
    · refine ⟨fun h1 => ?_, fun h1 => ?_⟩
      · simp only [decide_eq_true_eq] at h1
        have hi : i < ys.length := by omega
        refine RI.ld (y1.ext hext) (j := i) rfl hi ?_
        have hg := y2.get hi
        rintro z rfl
        rw [w64 (by omega) (by omega)]
        exact ⟨rfl, by simp [hi]⟩
      · simp only [decide_eq_false_iff_not] at h1
        have : ys.getD i 0 = 0 := by simp [List.getElem?_eq_none (show ys.length ≤ i by omega)]
        exact ⟨rfl, by rw [this]; rfl⟩
    rintro n2 h4 ⟨rfl, rfl⟩
    generalize hsum : c + xs.getD i 0 + ys.getD i 0 = t at *
    have ht : t < 20 := by omega
    have e1 : Int.tmod (t : Int) 10 = ((t % 10 : Nat) : Int) := rfl
    have e2 : Int.tdiv (t : Int) 10 = ((t / 10 : Nat) : Int) := rfl
    rw [e1, e2]
    refine app1 (m := t % 10) rfl hoz hext.size (by omega) fun s' h5 ho5 hk5 _ => ?_
    rintro c2 rfl i2 rfl
    rw [w64 (by omega) (by omega), w64 (n := (i : Int) + 1) (by omega) (by omega)]
    have hover : max xs.length ys.length ≤ i → t = c := fun hm => by
      have h1 : xs.getD i 0 = 0 := by simp [List.getElem?_eq_none (show xs.length ≤ i by omega)]
      have h2 : ys.getD i 0 = 0 := by simp [List.getElem?_eq_none (show ys.length ≤ i by omega)]
      omega
    refine ⟨⟨zs ++ [t % 10], t / 10, i + 1, rfl, by omega, ho5, hzl.snoc (Nat.mod_lt _ (by decide)), by simp [hzlen], by omega, ?_, ?_, Keep.own hext hoz (Nat.le_refl _) hk5⟩, ?_⟩
    · rcases Nat.lt_or_ge i (max xs.length ys.length) with h | h
      · omega
      · have := hover h; omega
    · rw [val_snoc, hzlen, val_take_getD, val_take_getD, Nat.pow_succ]
      have e1 : 10 ^ i * (t % 10) + 10 ^ i * 10 * (t / 10) = 10 ^ i * t := by
        rw [Nat.mul_assoc, ← Nat.mul_add, Nat.mod_add_div]
      have e2 : 10 ^ i * t = 10 ^ i * c + 10 ^ i * xs.getD i 0 + 10 ^ i * ys.getD i 0 := by
        rw [← hsum, Nat.mul_add, Nat.mul_add]
      omega
    · rcases Nat.lt_or_ge i (max xs.length ys.length) with h | h
      · omega
      · have := hover h; omega
  · simp only [decide_eq_false_iff_not] at hstop
    have hc0 : c = 0 := by omega
    subst hc0
    rw [take_all_val _ _ (by omega), take_all_val _ _ (by omega), x4, y4, Nat.mul_zero, Nat.add_zero] at hval
    refine CutD hoz.r hzl (by omega) fun r hr hbl => K r h'' (by rw [← hval]; exact hr) hext (fun b hb => ?_)
    rw [hbl] at hb
    exact (hoz.lt hb).1

theorem Sub10uspec {x y : Sl} {m n : Nat} {h : Heap} {Q : Sl → Heap → Prop} (hx : DN h x m) (hy : DN h y n) (hxl : x.len ≤ 1000000000)
    (K : ∀ r h', DN h' r (m - n) → Ext h h' → (∀ b, r.blk = some b → h.size ≤ b) → Q r h') : ref01uSub x y h Q := by
  unfold ref01uSub
  refine Cmp10uspec hx hy (by omega) ⟨fun hlt => ?_, fun hge => ?_⟩
  · simp only [decide_eq_true_eq] at hlt
    have hmn : m < n := by
      unfold cmpI at hlt
      split at hlt
      · assumption
      · split at hlt <;> simp at hlt
    refine newN (kd := .i64) (ms := []) rfl fun h0 ho he _ => ?_
    exact K _ h0 ⟨[], ho.r, Lim.nil, Nrm.nil, by rw [val_nil]; omega⟩ he (fun b hb => (ho.lt hb).1)
  · simp only [decide_eq_false_iff_not] at hge
    have hnm : n ≤ m := by
      unfold cmpI at hge
      split at hge
      · simp at hge
      · omega
    obtain ⟨xs, x1, x2, x3, x4⟩ := hx
    obtain ⟨ys, y1, y2, y3, y4⟩ := hy
    have lx := x1.len
    have ly := y1.len
    have hyx : ys.length ≤ xs.length := len_le_of_val (b := 10) (by decide) y3 (by rw [y4]; have := val_lt x2; omega)
    refine newN (kd := .i64) (ms := []) rfl fun h0 ho he _ => ?_
    rintro out rfl
    refine loop.inv (fun s h' => ∃ (zs : List Nat) (c i : Nat), s.2.1 = (c : Int) ∧ s.2.2 = (i : Int) ∧ OwnI .i64 h.size h' s.1 zs ∧ Lim 10 zs ∧ zs.length = i ∧ i ≤ xs.length ∧ c ≤ 1 ∧
        val 10 (xs.take i) + 10 ^ i * c = val 10 zs + val 10 (ys.take i) ∧ Ext h h') (fun s _ => xs.length - s.2.2.toNat) ⟨[], 0, 0, rfl, rfl, ho, Lim.nil, rfl, by omega, by omega, by simp [val], he⟩ ?_
    rintro ⟨o, carry, i'⟩ h' ⟨zs, c, i, hcc, hii, hoz, hzl, hzlen, hile, hc1, hval, hext⟩
    simp only at hcc hii hoz
    subst hcc hii
    dsimp only
    refine ⟨fun hlt => ?_, fun hge2 => ?_⟩
    · simp only [decide_eq_true_eq] at hlt
      have hi : i < xs.length := by omega
      refine RI.ld (x1.ext hext) (j := i) rfl hi ?_
      have hxi := x2.get hi
      have hts := val_take_succ (b := 10) xs i hi
      have gy := Lim.getD y2 (by decide) i
      generalize xs[i] = xi at *
      rintro n0 rfl
      rw [w64 (by omega) (by omega)]
      refine seq.cut (fun n2 h4 => h4 = h' ∧ n2 = (xi : Int) - (c : Int) - (ys.getD i 0 : Nat)) ?_ ?_
      · refine ⟨fun h1 => ?_, fun h1 => ?_⟩
        · simp only [decide_eq_true_eq] at h1
          have hi : i < ys.length := by omega
          refine RI.ld (y1.ext hext) (j := i) rfl hi ?_
          have hg := y2.get hi
          rintro z rfl
          rw [w64 (by omega) (by omega)]
          exact ⟨rfl, by simp [hi]⟩
        · simp only [decide_eq_false_iff_not] at h1
          have : ys.getD i 0 = 0 := by simp [List.getElem?_eq_none (show ys.length ≤ i by omega)]
          exact ⟨rfl, by rw [this]; simp⟩
      rintro n2 h4 ⟨rfl, rfl⟩
      have hys := val_take_getD (b := 10) ys i
      generalize ys.getD i 0 = yi at *
      refine seq.cut (fun t h5 => h5 = h4 ∧ ∃ c2 d : Nat, t = ((c2 : Int), (d : Int)) ∧ c2 ≤ 1 ∧ d < 10 ∧ xi + 10 * c2 = d + c + yi) ?_ ?_
      · refine ⟨fun h1 => ?_, fun h1 => ?_⟩
        · simp only [decide_eq_true_eq] at h1
          rintro z rfl
          rw [w64 (by omega) (by omega)]
          refine ⟨rfl, 1, xi + 10 - c - yi, ?_, by omega, by omega, by omega⟩
          congr 1
          omega
        · simp only [decide_eq_false_iff_not] at h1
          refine ⟨rfl, 0, xi - c - yi, ?_, by omega, by omega, by omega⟩
          congr 1
          omega
      rintro t h5 ⟨rfl, c2, d, rfl, hc2, hd, heq⟩
      dsimp only
      refine app1 (m := d) rfl hoz hext.size (by omega) fun s' h6 ho6 hk6 _ => ?_
      rintro i2 rfl
      rw [w64 (by omega) (by omega)]
      refine ⟨⟨zs ++ [d], c2, i + 1, rfl, by omega, ho6, hzl.snoc hd, by simp [hzlen], by omega, hc2, ?_, Keep.own hext hoz (Nat.le_refl _) hk6⟩, by omega⟩
      rw [val_snoc, hzlen, hts, hys, Nat.pow_succ]
      have e1 : 10 ^ i * (xi + 10 * c2) = 10 ^ i * (d + c + yi) := by rw [heq]
      simp only [Nat.mul_add] at e1
      have e2 : 10 ^ i * (10 * c2) = 10 ^ i * 10 * c2 := by rw [Nat.mul_assoc]
      omega
    · simp only [decide_eq_false_iff_not] at hge2
      have hi : i = xs.length := by omega
      subst hi
      rw [List.take_length, List.take_of_length_le hyx, x4, y4] at hval
      have hzb := val_lt hzl
      rw [hzlen] at hzb
      have hc0 : c = 0 := by
        rcases Nat.lt_or_ge c 1 with h | h
        · omega
        · have : c = 1 := by omega
          subst this
          have := Nat.mul_one (10 ^ xs.length)
          omega
      subst hc0
      rw [Nat.mul_zero, Nat.add_zero] at hval
      have hv : val 10 zs = m - n := by omega
      refine CutD hoz.r hzl (by omega) fun r hr hbl => K r h' (by rw [← hv]; exact hr) hext (fun b hb => ?_)
      rw [hbl] at hb
      exact (hoz.lt hb).1
end Go.Sh

namespace Go.Sh
open Go Go.Lift

theorem Mul10uspec {x y : Sl} {m n : Nat} {h : Heap} {Q : Sl → Heap → Prop} (hx : DN h x m) (hy : DN h y n) (hxl : x.len ≤ 100000000) (hyl : y.len ≤ 100000000)
    (K : ∀ r h', DN h' r (m * n) → Ext h h' → (∀ b, r.blk = some b → h.size ≤ b) → Q r h') : ref01uMul x y h Q := by
  obtain ⟨xs, x1, x2, x3, x4⟩ := hx
  obtain ⟨ys, y1, y2, y3, y4⟩ := hy
  have lx := x1.len
  have ly := y1.len
  unfold ref01uMul
  rintro t15 rfl
  rw [w64 (n := (x.len : Int) + (y.len : Int)) (by omega) (by omega), w64 (by omega) (by omega)]
  refine mk_spec (m := xs.length + ys.length + 1) (by omega) (by omega) fun v h0 ho0 he0 hvl => ?_
  have hyn := val_lt y2
  rw [y4] at hyn
  refine loop.inv (fun s h' => ∃ (zs : List Nat) (i : Nat), s = (i : Int) ∧ OwnI .i64 h.size h' v zs ∧ Lim 10 zs ∧ zs.length = xs.length + ys.length + 1 ∧ i ≤ xs.length ∧
      val 10 zs = val 10 (xs.take i) * n ∧ Ext h h') (fun s _ => xs.length - s.toNat)
    ⟨List.replicate (xs.length + ys.length + 1) 0, 0, rfl, ho0, fun z hz => by rw [List.eq_of_mem_replicate hz]; decide, by simp, by omega, by rw [val_replicate_zero]; simp [val], he0⟩ ?_
  rintro s h1 ⟨zs, i, rfl, ho, hlim, hzl, hile, hval, hext⟩
  refine ⟨fun hlt => ?_, fun hge => ?_⟩
  · simp only [decide_eq_true_eq] at hlt
    have hi : i < xs.length := by omega
    have hxi := x2.get hi
    have hts := val_take_succ (b := 10) xs i hi
    have htot : val 10 (xs.take (i + 1)) * n < 10 ^ (i + 1 + ys.length) := by
      have h1 := val_lt (x2.take (i + 1))
      rw [List.length_take, Nat.min_eq_left (by omega)] at h1
      rw [Nat.pow_add]
      exact Nat.mul_lt_mul'' h1 hyn
    have htot2 : val 10 (xs.take (i + 1)) * n = val 10 zs + 10 ^ i * (xs[i] * n) := by
      rw [hts, Nat.add_mul, ← hval, Nat.mul_assoc]
    generalize hxe : xs[i] = xi at *
    refine loop.inv (fun s h' => ∃ (k c : Nat) (ws : List Nat), s.1 = (c : Int) ∧ s.2 = (k : Int) ∧ c ≤ 9 ∧ (k ≤ ys.length ∨ c = 0) ∧ k ≤ ys.length + 1 ∧ OwnI .i64 h.size h' v ws ∧ Lim 10 ws ∧ ws.length = xs.length + ys.length + 1 ∧
        val 10 ws + 10 ^ (i + k) * c = val 10 zs + 10 ^ i * (xi * val 10 (ys.take k)) ∧ Ext h h') (fun s _ => ys.length + 1 - s.2.toNat)
      ⟨0, 0, zs, rfl, rfl, by omega, .inl (by omega), by omega, ho, hlim, hzl, by simp [val], hext⟩ ?_
    rintro ⟨c', k'⟩ h2 ⟨k, c, ws, hc, hk, hc9, hkc, hk1, how, hwl, hwlen, hwv, hext2⟩
    simp only at hc hk
    subst hc hk
    dsimp only
    refine seq.cut (fun b h'' => h'' = h2 ∧ b = decide (k < ys.length ∨ 0 < c)) ?_ ?_
    · refine ⟨fun h1 => ?_, fun h1 => ?_⟩
      · simp only [decide_eq_true_eq] at h1
        exact ⟨rfl, by simp; omega⟩
      · simp only [decide_eq_false_iff_not] at h1
        exact ⟨rfl, decide_eq_decide.2 (by omega)⟩
    rintro b h3 ⟨rfl, rfl⟩
    refine ⟨fun hgo => ?_, fun hstop => ?_⟩
    · simp only [decide_eq_true_eq] at hgo
      have hkl : k ≤ ys.length := by omega
      -- beyond y something is carried only where there is room
      have hik : i + k < ws.length := by omega
      rw [w64 (n := (i : Int) + (k : Int)) (by omega) (by omega)]
      refine RI.ld how.r (j := i + k) (by omega) hik ?_
      have hwk := hwl.get hik
      have hset := val_set (b := 10) ws (i + k) hik
      have gy := Lim.getD y2 (by decide) k
      have hys := val_take_getD (b := 10) ys k
      generalize hwe : ws[i + k] = wk at *
      rintro n0 rfl
      rw [w64 (n := (wk : Int) + (c : Int)) (by omega) (by omega)]
      have hprod : xi * ys.getD k 0 ≤ 9 * 9 := Nat.mul_le_mul (by omega) (by omega)
      refine seq.cut (fun n2 h4 => h4 = h3 ∧ n2 = ((wk + c + xi * ys.getD k 0 : Nat) : Int)) ?_ ?_
      · refine ⟨fun h1 => ?_, fun h1 => ?_⟩
        · simp only [decide_eq_true_eq] at h1
          have hky : k < ys.length := by omega
          refine RI.ld (x1.ext hext2) (j := i) rfl hi (RI.ld (y1.ext hext2) (j := k) rfl hky ?_)
          have e1 : ys.getD k 0 = ys[k] := by simp [hky]
          rw [e1] at hprod ⊢
          rw [hxe]
          have e2 : (xi : Int) * (ys[k] : Int) = ((xi * ys[k] : Nat) : Int) := by simp
          rw [e2]
          generalize xi * ys[k] = p at *
          rintro z rfl
          rw [w64 (n := (p : Int)) (by omega) (by omega), w64 (by omega) (by omega)]
          exact ⟨rfl, by omega⟩
        · simp only [decide_eq_false_iff_not] at h1
          have : ys.getD k 0 = 0 := by simp [List.getElem?_eq_none (show ys.length ≤ k by omega)]
          exact ⟨rfl, by rw [this]; simp⟩
      rintro n2 h4 ⟨rfl, rfl⟩
      -- where y has ended, what is carried ends, too
      have hend : ys.length ≤ k → (wk + c + xi * ys.getD k 0) / 10 = 0 := fun hyk => by
        have h0 : ys.getD k 0 = 0 := by simp [List.getElem?_eq_none hyk]
        rw [h0, Nat.mul_zero, Nat.add_zero]
        have hke : k = ys.length := by omega
        rw [List.take_of_length_le hyk, y4, ← htot2] at hwv
        have h1 := hset 0
        rw [Nat.mul_zero, Nat.add_zero] at h1
        have h3 : 10 ^ (i + k) * (wk + c) < 10 ^ (i + k) * 10 := by
          have : 10 ^ (i + k) * 10 = 10 ^ (i + 1 + ys.length) := by rw [← Nat.pow_succ]; congr 1; omega
          rw [this, Nat.mul_add]
          omega
        have := Nat.lt_of_mul_lt_mul_left h3
        omega
      generalize htt : wk + c + xi * ys.getD k 0 = t at *
      have ht : t < 100 := by omega
      have e1 : Int.tmod (t : Int) 10 = ((t % 10 : Nat) : Int) := rfl
      have e2 : Int.tdiv (t : Int) 10 = ((t / 10 : Nat) : Int) := rfl
      rw [e1, e2]
      refine Own.st how (j := i + k) (m := t % 10) (by omega) hik rfl fun h5 ho5 hk5 _ => ?_
      rintro c2 rfl k2 rfl
      rw [w64 (by omega) (by omega), w64 (n := (k : Int) + 1) (by omega) (by omega)]
      refine ⟨⟨k + 1, t / 10, _, rfl, by omega, by omega, ?_, by omega, ho5, hwl.set _ (Nat.mod_lt _ (by decide)), by simpa using hwlen, ?_, Keep.own hext2 how (Nat.le_refl _) hk5⟩, by omega⟩
      · rcases Nat.lt_or_ge k ys.length with h | h
        · left; omega
        · right; exact hend h
      · have h1 := hset (t % 10)
        rw [hys, show i + (k + 1) = (i + k) + 1 from by omega, Nat.pow_succ]
        have e1 : 10 ^ (i + k) * (t % 10) + 10 ^ (i + k) * 10 * (t / 10) = 10 ^ (i + k) * t := by
          rw [Nat.mul_assoc, ← Nat.mul_add, Nat.mod_add_div]
        have e2 : 10 ^ (i + k) * t = 10 ^ (i + k) * wk + 10 ^ (i + k) * c + 10 ^ (i + k) * (xi * ys.getD k 0) := by
          rw [← htt, Nat.mul_add, Nat.mul_add]
        have e3 : 10 ^ i * (xi * (val 10 (List.take k ys) + 10 ^ k * ys.getD k 0)) = 10 ^ i * (xi * val 10 (List.take k ys)) + 10 ^ (i + k) * (xi * ys.getD k 0) := by
          rw [Nat.mul_add, Nat.mul_add, Nat.pow_add]
          congr 1
          rw [Nat.mul_left_comm xi, Nat.mul_assoc]
        rw [e3]
        omega
    · simp only [decide_eq_false_iff_not] at hstop
      have hc0 : c = 0 := by omega
      subst hc0
      rw [Nat.mul_zero, Nat.add_zero, List.take_of_length_le (by omega), y4, ← htot2] at hwv
      rintro i2 rfl
      rw [w64 (by omega) (by omega)]
      exact ⟨⟨ws, i + 1, by omega, how, hwl, hwlen, by omega, hwv, hext2⟩, by omega⟩
  · simp only [decide_eq_false_iff_not] at hge
    have hi : i = xs.length := by omega
    subst hi
    rw [List.take_length, x4] at hval
    refine CutD ho.r hlim (by omega) fun r hr hbl => K r h1 (by rw [← hval]; exact hr) hext (fun b hb => ?_)
    rw [hbl] at hb
    exact (ho.lt hb).1
end Go.Sh

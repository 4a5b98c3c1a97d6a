/-
  Laws that the proof of this claim's statement leans on, each proved under the conditions that it states.
-/
import Derived.Test.YtlclchgingkkhaaGreatDoorSpQ
import Derived.Test.YtlclchgingkkhaaGreatDoorSpT
set_option linter.unusedVariables false
set_option linter.unusedSimpArgs false
namespace Go.Sh
open Go Go.Lift
structure RD (h : Heap) (x : Bool × Sl × Sl) (q : Rat) : Prop where
  num : DN h x.2.1 q.num.natAbs
  den : DN h x.2.2 q.den
  neg : x.1 = decide (q.num < 0)
structure RDr (h : Heap) (x : Bool × Sl × Sl) (z : Int) (m : Nat) : Prop where
  num : DN h x.2.1 z.natAbs
  den : DN h x.2.2 m
  pos : m ≠ 0
  neg : z ≠ 0 → x.1 = decide (z < 0)
theorem RD.ext {h h' : Heap} {x : Bool × Sl × Sl} {q : Rat} (hx : RD h x q) (e : Ext h h') : RD h' x q := ⟨hx.num.ext e, hx.den.ext e, hx.neg⟩
theorem RDr.ext {h h' : Heap} {x : Bool × Sl × Sl} {z : Int} {m : Nat} (hx : RDr h x z m) (e : Ext h h') : RDr h' x z m := ⟨hx.num.ext e, hx.den.ext e, hx.pos, hx.neg⟩
theorem RD.raw {h : Heap} {x : Bool × Sl × Sl} {q : Rat} (hx : RD h x q) : RDr h x q.num q.den := ⟨hx.num, hx.den, q.den_nz, fun _ => hx.neg⟩
theorem DN.keepB {h h' : Heap} {s : Sl} {n b : Nat} (hs : DN h s n) (k : Keep (some b) h h') (hb : h.size ≤ b) : DN h' s n := by
  obtain ⟨xs, x1, x2, x3, x4⟩ := hs
  exact ⟨xs, x1.keepB k (fun a ha hx e => by have := x1.lt ha hx; omega), x2, x3, x4⟩
theorem Keep.ext {b : Nat} {h h' : Heap} (k : Keep (some b) h h') (hb : h.size ≤ b) : Ext h h' := ⟨k.size, fun i hi _ => k.same i hi (by simp; omega)⟩
theorem DN.zero {h : Heap} {s : Sl} (hs : s.len = 0) : DN h s 0 := ⟨[], R.nil_of hs, Lim.nil, Nrm.nil, rfl⟩
theorem ac2 {h : Heap} {n : Nat} {k : Addr → Heap → Prop} (h0 : n ≠ 0) (hn : n < 10) (K : ∀ a h', DN h' ⟨some a, 1, 1⟩ n → Ext h h' → k a h') : new [Value.int .i64 (n : Int)] h k := by
  refine new1 (m := n) rfl fun h' hr he _ => K _ h' ⟨[n], hr, by intro z hz; simp at hz; omega, by simp [Nrm]; omega, by simp [val]⟩ he
def Dg (kd : IntKind) (B : Nat) (h : Heap) (s : Sl) (ds : List Nat) : Prop := (ds = [] ∧ s.len = 0 ∧ s.cap = 0) ∨ OwnI kd B h s ds
theorem Dg.r {kd : IntKind} {B : Nat} {h : Heap} {s : Sl} {ds : List Nat} (hd : Dg kd B h s ds) : RI kd h s ds := by
  rcases hd with ⟨rfl, h1, _⟩ | h1
  · exact R.nil_of h1
  · exact h1.r
theorem Dg.ext {kd : IntKind} {B : Nat} {h h' : Heap} {s : Sl} {ds : List Nat} (hd : Dg kd B h s ds) (e : Ext h h') : Dg kd B h' s ds := hd.imp id fun h => h.ext e
theorem Dg.app {kd : IntKind} {bytes B : Nat} {n : Int} {m : Nat} {h h0 : Heap} {s : Sl} {xs : List Nat} {k : Sl → Heap → Prop} (hn : n = (m : Int)) (ho : Dg kd B h s xs) (hB : B ≤ h.size) (he : Ext h0 h) (h0B : h0.size ≤ B) (hb : (xs.length + 1) * bytes ≤ 2 ^ 46)
    (K : ∀ s' h', OwnI kd B h' s' (xs ++ [m]) → Ext h0 h' → h.size ≤ h'.size → k s' h') : new [Value.int kd n] h fun a h1 => aK 1 bytes s (⟨some a, 1, 1⟩ : Sl) h1 k := by
  rcases ho with ⟨rfl, h1, h2⟩ | ho
  · refine new1 hn fun h1' hr he1 hsz => ?_
    have s1 := he1.size
    refine ⟨[Value.int kd (m : Int)], by have := hr.cells; simpa using this, rfl, by rw [h1]; simpa using hb, fun hfit => ?_, fun hgrow => ⟨[], by rw [h1]; cases s.a <;> simp [cellsO?, cells?], fun cap T rest hcap hrest => ?_⟩⟩
    · rw [h1, h2] at hfit; simp at hfit
    · have e2 : Ext h1' (h1'.push (.cells ([] ++ [Value.int kd (m : Int)] ++ rest).toArray T (0, 0))) := Ext.push _ _
      refine K _ _ ⟨R.mk' (by simp [h1]) (by simpa using hcap) ⟨h1'.size, 0, none⟩ rfl ?_, .inr ⟨h1'.size, _, T, rfl, by omega, by simp; rfl, ?_⟩⟩ (he.trans (he1.trans e2)) (by have := e2.size; omega)
      · intro i hi
        rw [aZ]
        simp at hi
        subst hi
        simp
      · simp [hrest, h1] at *; omega
  · exact app1 hn ho hB hb fun s' h' ho' hk hs => K s' h' ho' (Keep.own he ho h0B hk) hs
theorem abu {n : Int} {h : Heap} {Q : (Bool × Sl × Sl) → Heap → Prop} (hn : n.natAbs < 9223372036854775808) (K : ∀ r h', RD h' r (n : Rat) → Ext h h' → Q r h') : lA n h Q := by
  refine ae fun h1 e1 => ?_
  intro T
  have e2 : Ext h1 (h1.push (.cells ([] : List Value).toArray T (0, 0))) := Ext.push _ _
  generalize h1.push (.cells ([] : List Value).toArray T (0, 0)) = h2 at *
  refine ac2 (n := 1) (by decide) (by decide) fun a h3 hd e3 => ae fun h4 e4 => ?_
  refine seq.cut (fun t h5 => t = (n.natAbs : Int) ∧ h5 = h4) ?_ ?_
  · refine ⟨fun hlt => ?_, fun hge => ?_⟩
    · simp only [decide_eq_true_eq] at hlt
      rintro _ rfl
      exact ⟨by rw [w64 (by omega) (by omega)]; omega, rfl⟩
    · simp only [decide_eq_false_iff_not] at hge
      exact ⟨by omega, rfl⟩
  rintro t h5 ⟨rfl, rfl⟩
  have e04 := e1.trans (e2.trans (e3.trans e4))
  have hd4 := hd.ext e4
  refine loop.inv (fun s h' => ∃ (k : Nat) (ds : List Nat), s.1 = (k : Int) ∧ s.2.1 = decide (n < 0) ∧ Dg .i64 h5.size h' s.2.2.1 ds ∧ s.2.2.2 = (⟨some a, 1, 1⟩ : Sl) ∧ Lim 10 ds ∧ val 10 ds + 10 ^ ds.length * k = n.natAbs ∧ (k = 0 → Nrm ds) ∧ Ext h5 h')
    (fun s _ => s.1.toNat) ⟨n.natAbs, [], rfl, rfl, .inl ⟨rfl, rfl, rfl⟩, rfl, Lim.nil, by simp [val], fun _ => Nrm.nil, Keep.refl _ _⟩ ?_
  rintro ⟨s1, s2, s3, s4⟩ h6 ⟨k, ds, h61, h62, hdg, h64, hlim, hval, hnrm, hext⟩
  simp only at h61 h62 hdg h64
  subst h61 h62 h64
  dsimp only
  refine ⟨fun hgt => ?_, fun hle => ?_⟩
  · simp only [gt_iff_lt, decide_eq_true_eq] at hgt
    have hlen : ds.length < 64 := by
      rcases Nat.lt_or_ge ds.length 64 with h | h
      · exact h
      · exfalso
        have h1 : 10 ^ 64 ≤ 10 ^ ds.length := Nat.pow_le_pow_right (by decide) h
        have h2 : 10 ^ ds.length * 1 ≤ 10 ^ ds.length * k := Nat.mul_le_mul_left _ (by omega)
        have h3 : (9223372036854775808 : Nat) ≤ 10 ^ 64 := by decide
        omega
    refine Dg.app (m := k % 10) (by rw [Int.tmod_eq_emod_of_nonneg (by omega)]; omega) hdg hext.size hext (Nat.le_refl _) (by omega) fun s' h7 ho7 e7 _ => ?_
    rintro _ rfl
    have hkn : 1 * k ≤ 10 ^ ds.length * k := Nat.mul_le_mul_right _ (Nat.pow_pos (by decide))
    have hq : IntKind.wrap .i64 (Int.tdiv (k : Int) 10) = ((k / 10 : Nat) : Int) := by
      rw [Int.tdiv_eq_ediv_of_nonneg (by omega), w64 (by omega) (by omega)]; omega
    rw [hq]
    refine ⟨⟨k / 10, ds ++ [k % 10], rfl, rfl, .inr ho7, rfl, hlim.snoc (Nat.mod_lt _ (by decide)), ?_, fun h0 => ?_, e7⟩, by simp; omega⟩
    · rw [dj, List.length_append, List.length_singleton, Nat.pow_succ, Nat.mul_assoc, Nat.add_assoc, ← Nat.mul_add, Nat.mod_add_div]; exact hval
    · unfold Nrm
      simp; omega
  · simp only [gt_iff_lt, decide_eq_false_iff_not] at hle
    have hk : k = 0 := by omega
    subst hk
    have hnum : ((n : Rat)).num = n := Rat.num_intCast n
    have hden : ((n : Rat)).den = 1 := Rat.den_intCast n
    refine K _ h6 ⟨?_, ?_, ?_⟩ (e04.trans hext)
    · rw [hnum]; exact ⟨ds, hdg.r, hlim, hnrm rfl, by simpa using hval⟩
    · rw [hden]; exact hd4.ext hext
    · rw [hnum]
theorem rp {h : Heap} {x : Bool × Sl × Sl} {z : Int} {m k : Nat} {Q : (Bool × Sl × Sl) → Heap → Prop} (hx : RDr h x z m) (hk : k ≤ 2200000) (hz : nl z.natAbs ≤ k) (hm : nl m ≤ k)
    (K : ∀ r h', RD h' r (mkRat z m) → Ext h h' → Q r h') : c9 x h Q := by
  have hmp := hx.pos
  have lz := hx.num.len_nl hz
  have lm := hx.den.len_nl hm
  refine ae fun h1 e1 => ⟨fun hl => ?_, fun hl => ?_⟩
  · simp only [beq_iff_eq] at hl
    have : z.natAbs = 0 := hx.num.len_zero.1 (by omega)
    have : z = 0 := by omega
    subst this
    rw [Rat.zero_mkRat] at K
    exact abu (n := 0) (by decide) fun r h2 hr e2 => K r h2 hr (e1.trans e2)
  · have hz0 : z ≠ 0 := fun h0 => by
      have := hx.num.len_zero.2 (by omega)
      simp [this] at hl
    have X := hx.ext e1
    have hgpos : Nat.gcd z.natAbs m ≠ 0 := fun h0 => hmp (Nat.eq_zero_of_gcd_eq_zero_right h0)
    have lg : nl (Nat.gcd z.natAbs m) ≤ k := Nat.le_trans (dI (Nat.le_of_dvd (Nat.pos_of_ne_zero hmp) (Nat.gcd_dvd_right _ _))) hm
    refine yu (E := 10 * k) (by omega) X.num X.den (nH hz) (nH hm) fun g h2 hg e2 => ?_
    have lgl := hg.len_nl lg
    refine j6 (X.num.ext e2) hg (by omega) (by omega) (fun h0 => absurd h0 hgpos) fun _ q1 r1 h3 hq1 _ e3 => ?_
    refine j6 ((X.den.ext e2).ext e3) (hg.ext e3) (by omega) (by omega) (fun h0 => absurd h0 hgpos) fun _ q2 r2 h4 hq2 _ e4 => ?_
    refine K _ h4 ⟨?_, ?_, ?_⟩ (e1.trans (e2.trans (e3.trans e4)))
    · rw [sr z hmp]; exact hq1.ext e4
    · rw [rR z hmp]; exact hq2
    · show x.1 = _
      rw [hx.neg hz0]
      exact decide_eq_decide.2 (xe z hmp).symm
theorem ade {h : Heap} {s : Sl} {m : Nat} {K : Bool → Heap → Prop} (hs : DN h s m) (hl : s.len ≤ 100000000) (k : K (decide (m ≠ 1)) h) :
    iteB (((s.len : Nat) : Int) != 1) (K true h) (idxS s 0 1 fun a => Lift.load (Value.int .i64) a h fun v => K (v != 1) h) := by
  obtain ⟨xs, x1, x2, x3, x4⟩ := hs
  have lx := x1.len
  refine ⟨fun h1 => ?_, fun h1 => ?_⟩
  · simp only [bne_iff_ne, ne_eq] at h1
    have : m ≠ 1 := by
      rintro rfl
      have := lr (b := 10) (ys := [1]) (by decide) x2 (by intro z hz; simp at hz; omega) x3 (by simp [Nrm]) (by rw [x4]; simp [val])
      subst this
      simp at lx; omega
    simp [this] at k; exact k
  · simp only [bne_eq_false_iff_eq] at h1
    refine x1.ld (j := 0) rfl (by omega) ?_
    have : (decide (m ≠ 1)) = (((xs[0]'(by omega) : Nat) : Int) != 1) := by
      cases xs with
      | nil => simp at lx; omega
      | cons y ys =>
        have : ys = [] := List.eq_nil_of_length_eq_zero (by simp at lx; omega)
        subst this
        simp [val] at x4
        subst x4
        rw [Bool.eq_iff_iff]; simp; omega
    rw [this] at k; exact k
theorem zf {h : Heap} {x : Bool × Sl × Sl} {z : Int} {m k : Nat} {Q : (Bool × Sl × Sl) → Heap → Prop} (hx : RDr h x z m) (hk : k ≤ 2200000) (hz : nl z.natAbs ≤ k) (hm : nl m ≤ k)
    (K : ∀ r h', RQ h' r (mkRat z m) → Ext h h' → Q r h') : jU x h Q := by
  have hsz := aat z hx.pos
  have hnl := aG (mkRat z m)
  have hdl : nl (mkRat z m).den ≤ k := by rw [rR z hx.pos]; exact Nat.le_trans (dI (Nat.div_le_self _ _)) hm
  refine ae fun h1 e1 => rp (hx.ext e1) hk hz hm fun v h2 hv e2 => ?_
  generalize mkRat z m = q at *
  have ln := hv.num.len_nl (k := k) (by omega)
  have ld := hv.den.len_nl hdl
  refine seq.cut (fun t h3 => t.1 = decide (q.num < 0) ∧ NN h3 t.2.1 q.num.natAbs ∧ t.2.2 = Sl.nil ∧ Ext h2 h3) ?_ ?_
  · refine ae fun h3 e3 => zi (hv.num.ext e3) (by omega) (by omega) fun l h4 hl e4 => ae fun h5 e5 => ?_
    exact ⟨hv.neg, hl.ext e5, rfl, e3.trans (e4.trans e5)⟩
  · rintro ⟨t1, t2, t3⟩ h3 ⟨ht1, ht2, ht3, e3⟩
    simp only at ht1 ht2 ht3
    subst ht1 ht3
    dsimp only
    refine seq.cut (fun t h4 => t.1 = decide (q.num < 0) ∧ NN h4 t.2.1 q.num.natAbs ∧ NN h4 t.2.2 (dn q) ∧ Ext h3 h4) ?_ ?_
    · refine seq.cut (fun b h4 => b = decide (q.den ≠ 1) ∧ h4 = h3) ?_ ?_
      · exact ade (K := fun b h4 => b = decide (q.den ≠ 1) ∧ h4 = h3) (hv.den.ext e3) (by omega) ⟨rfl, rfl⟩
      · rintro b h4 ⟨rfl, rfl⟩
        refine ⟨fun hne => ?_, fun he => ?_⟩
        · simp only [decide_eq_true_eq] at hne
          refine zi (hv.den.ext e3) (by omega) (by omega) fun l h5 hl e5 => ⟨rfl, ht2.ext e5, ?_, e5⟩
          unfold dn; rw [if_neg hne]; exact hl
        · simp only [decide_eq_false_iff_not, Classical.not_not] at he
          refine ⟨rfl, ht2, ?_, Keep.refl _ _⟩
          unfold dn; rw [if_pos he]; exact NN.nil
    · rintro ⟨u1, u2, u3⟩ h4 ⟨hu1, hu2, hu3, e4⟩
      exact K _ h4 ⟨hu2, hu3, hu1⟩ (e1.trans (e2.trans (e3.trans e4)))
end Go.Sh

namespace Go.Sh
open Go Go.Lift
structure XR (h : Heap) (x : Bool × Sl × Sl) (xs ys : List Nat) : Prop where
  num : RI .u32 h x.2.1 xs
  lnum : Lim 4294967296 xs
  den : RI .u32 h x.2.2 ys
  lden : Lim 4294967296 ys
theorem XR.ext {h h' : Heap} {x : Bool × Sl × Sl} {xs ys : List Nat} (hx : XR h x xs ys) (e : Ext h h') : XR h' x xs ys := ⟨R.ext hx.num e, hx.lnum, R.ext hx.den e, hx.lden⟩
theorem si {xs : List Nat} {k : Nat} (hl : Lim 4294967296 xs) (hk : xs.length ≤ k) : nl (val 4294967296 xs) ≤ k := by
  rw [gA]
  exact Nat.lt_of_lt_of_le (cw hl) (Nat.pow_le_pow_right (by decide) hk)
theorem xx {h : Heap} {x : Bool × Sl × Sl} {xs ys : List Nat} {Q : (Bool × Sl × Sl) → Heap → Prop} (hx : XR h x xs ys) (lx : xs.length ≤ 2200000) (ly : ys.length ≤ 2200000)
    (K : ∀ r h', DN h' r.2.1 (val 4294967296 xs) → DN h' r.2.2 (if val 4294967296 ys = 0 then 1 else val 4294967296 ys) → r.1 = x.1 → Ext h h' → Q r h') : eZ x h Q := by
  refine ae fun h1 e1 => ?_
  refine seq.cut (fun t h2 => DN h2 t.2.1 (val 4294967296 xs) ∧ DN h2 t.2.2 (val 4294967296 ys) ∧ t.1 = x.1 ∧ Ext h h2) ?_ ?_
  · refine ae fun h2 e2 => ?_
    have X := (hx.ext e1).ext e2
    refine tW X.num X.lnum (by omega) fun r1 h3 hr1 e3 _ => ae fun h4 e4 => ?_
    have Y := (X.ext e3).ext e4
    refine tW Y.den Y.lden (by omega) fun r2 h5 hr2 e5 _ => ae fun h6 e6 => ?_
    exact ⟨((hr1.ext e4).ext e5).ext e6, hr2.ext e6, rfl, e1.trans (e2.trans (e3.trans (e4.trans (e5.trans e6))))⟩
  · rintro ⟨t1, t2, t3⟩ h2 ⟨ht2, ht3, ht1, e2⟩
    simp only at ht1 ht2 ht3
    dsimp only
    refine seq.cut (fun t h3 => DN h3 t.2.1 (val 4294967296 xs) ∧ DN h3 t.2.2 (if val 4294967296 ys = 0 then 1 else val 4294967296 ys) ∧ t.1 = x.1 ∧ Ext h h3) ?_ ?_
    · refine ⟨fun hz => ?_, fun hz => ?_⟩
      · simp only [beq_iff_eq] at hz
        have h0 : val 4294967296 ys = 0 := ht3.len_zero.1 (by omega)
        rw [if_pos h0]
        exact ac2 (n := 1) (by decide) (by decide) fun a h3 hd e3 => ⟨ht2.ext e3, hd, ht1, e2.trans e3⟩
      · have h0 : val 4294967296 ys ≠ 0 := fun h0 => by
          have := ht3.len_zero.2 h0
          simp [this] at hz
        rw [if_neg h0]
        exact ⟨ht2, ht3, ht1, e2⟩
    · rintro ⟨u1, u2, u3⟩ h3 ⟨hu2, hu3, hu1, e3⟩
      exact K _ h3 hu2 hu3 hu1 e3
theorem RQ.xr {h : Heap} {x : Bool × Sl × Sl} {q : Rat} (hx : RQ h x q) : ∃ xs ys, XR h x xs ys ∧ val 4294967296 xs = q.num.natAbs ∧ val 4294967296 ys = dn q ∧ xs.length = nl q.num.natAbs ∧ ys.length = nl (dn q) := by
  have l1 := hx.num.nl
  have l2 := hx.den.nl
  obtain ⟨xs, x1, x2, x3, x4, x5⟩ := hx.num
  obtain ⟨ys, y1, y2, y3, y4, y5⟩ := hx.den
  exact ⟨xs, ys, ⟨x1, x2, y1, y2⟩, x4, y4, by rw [← x1.len]; exact l1, by rw [← y1.len]; exact l2⟩
theorem xh (q : Rat) : (if dn q = 0 then 1 else dn q) = q.den := by
  unfold dn
  by_cases h : q.den = 1
  · simp [h]
  · simp [h, q.den_nz]
theorem rE {h : Heap} {x : Bool × Sl × Sl} {q : Rat} {Q : (Bool × Sl × Sl) → Heap → Prop} (hx : RQ h x q) (hs : szQ q ≤ 1000)
    (K : ∀ r h', RD h' r q → Ext h h' → Q r h') : eZ x h Q := by
  obtain ⟨xs, ys, hX, v1, v2, l1, l2⟩ := hx.xr
  have := aG q; have := gS q
  refine xx hX (by omega) (by omega) fun r h' h1 h2 h3 e => K r h' ⟨by rw [← v1]; exact h1, ?_, by rw [h3]; exact hx.neg⟩ e
  rw [v2, xh] at h2; exact h2
theorem gJ {h : Heap} {x y : Bool × Sl × Sl} {p q : Rat} {Q : Bool → Heap → Prop} (hx : RQ h x p) (hy : RQ h y q) (K : ∀ h', Ext h h' → Q (decide (p = q)) h') : cf x y h Q := by
  refine ae fun h1 e1 => ?_
  have hx1 := hx.ext e1
  have hy1 := hy.ext e1
  have same : ∀ {s t : Sl} {m n : Nat} {Q : Bool → Heap → Prop}, NN h1 s m → NN h1 t n → Q (decide (m = n)) h1 → dr s t h1 Q := by
    intro s t m n Q hs ht K
    obtain ⟨xs, x1, x2, x3, x4, x5⟩ := hs
    obtain ⟨ys, y1, y2, y3, y4, y5⟩ := ht
    refine mX x1 y1 x5 ?_
    have : (xs == ys) = decide (m = n) := by
      rw [Bool.eq_iff_iff]; simp only [beq_iff_eq, decide_eq_true_eq]
      constructor
      · rintro rfl; rw [← x4, y4]
      · intro h; exact lr (b := 4294967296) (by decide) x2 y2 x3 y3 (by rw [x4, y4, h])
    rw [this]; exact K
  have key : (p = q) ↔ (decide (p.num < 0) = decide (q.num < 0) ∧ p.num.natAbs = q.num.natAbs ∧ dn p = dn q) := by
    constructor
    · rintro rfl; exact ⟨rfl, rfl, rfl⟩
    · rintro ⟨a, b, c⟩
      rw [decide_eq_decide] at a
      refine Rat.ext (by omega) ?_
      have := xh p
      have := xh q
      rw [c] at *
      omega
  refine seq.cut (fun t h2 => t = decide (p = q) ∧ h2 = h1) ?_ ?_
  · rw [hx.neg, hy.neg]
    refine ⟨fun hs => ?_, fun hs => ?_⟩
    · simp only [beq_iff_eq] at hs
      refine same hx1.num hy1.num ⟨fun h2 => ?_, fun h2 => ?_⟩
      · simp only [decide_eq_true_eq] at h2
        refine same hx1.den hy1.den ⟨?_, rfl⟩
        rw [decide_eq_decide, key]
        exact ⟨fun h => ⟨hs, h2, h⟩, fun h => h.2.2⟩
      · simp only [decide_eq_false_iff_not] at h2
        refine ⟨?_, rfl⟩
        symm; rw [decide_eq_false_iff_not, key]; exact fun h => h2 h.2.1
    · simp only [beq_eq_false_iff_ne, ne_eq] at hs
      refine ⟨?_, rfl⟩
      symm; rw [decide_eq_false_iff_not, key]; exact fun h => hs h.1
  · rintro t h2 ⟨rfl, rfl⟩
    exact K _ e1
theorem yX {h : Heap} {x : Bool × Sl × Sl} {q : Rat} {Q : (Bool × Sl × Sl) → Heap → Prop} (hx : RD h x q) (K : ∀ r h', RD h' r (-q) → Ext h h' → Q r h') : oa x h Q := by
  refine ae fun h1 e1 => ?_
  have hx1 := hx.ext e1
  refine seq.cut (fun t h2 => RD h2 t (-q) ∧ h2 = h1) ?_ ?_
  · refine ⟨fun hn => ?_, fun hn => ?_⟩
    · rw [hx.neg] at hn
      simp only [Bool.not_eq_true', decide_eq_false_iff_not] at hn
      refine ⟨⟨by rw [rL]; exact hx1.num, by rw [Rat.neg_den]; exact hx1.den, ?_⟩, rfl⟩
      rw [Rat.neg_num, decide_eq_decide]
      have := hx.num.len_zero
      constructor
      · intro hl
        have h1 : q.num.natAbs ≠ 0 := fun h0 => by have := this.2 h0; omega
        omega
      · intro hl
        have h1 : x.2.1.len ≠ 0 := fun h0 => by have := this.1 h0; omega
        omega
    · rw [hx.neg] at hn
      simp only [Bool.not_eq_false', decide_eq_true_eq] at hn
      refine ⟨⟨by rw [rL]; exact hx1.num, by rw [Rat.neg_den]; exact hx1.den, ?_⟩, rfl⟩
      rw [Rat.neg_num]
      symm; rw [decide_eq_false_iff_not]; omega
  · rintro t h2 ⟨ht, rfl⟩
    exact K _ _ ht e1
section
variable {h : Heap} {x y : Bool × Sl × Sl} {p q : Rat} {Q : (Bool × Sl × Sl) → Heap → Prop}
theorem tr (hx : RD h x p) (hy : RD h y q) (hsz : szQ p + szQ q ≤ 4000) (K : ∀ r h', RD h' r (p * q) → Ext h h' → Q r h') : jl x y h Q := by
  have n1 := aG p; have n2 := aG q; have n3 := aP p; have n4 := aP q
  have d1 := hx.num.len_nl n1; have d2 := hy.num.len_nl n2; have d3 := hx.den.len_nl n3; have d4 := hy.den.len_nl n4
  have m1 := kS p.num q.num
  have m3 := d9 p.den q.den
  refine ae fun h1 e1 => d7 (hx.num.ext e1) (hy.num.ext e1) (by omega) (by omega) fun r1 h2 hr1 e2 _ => ?_
  refine d7 ((hx.den.ext e1).ext e2) ((hy.den.ext e1).ext e2) (by omega) (by omega) fun r2 h3 hr2 e3 _ => ?_
  refine rp (z := p.num * q.num) (m := p.den * q.den) (k := 9000) ⟨by rw [Int.natAbs_mul]; exact hr1.ext e3, hr2, Nat.mul_ne_zero p.den_nz q.den_nz, fun hne => uW hx.neg hy.neg hne⟩ (by omega) (by omega) (by omega) fun r h4 hr e4 => ?_
  rw [wS] at hr
  exact K _ h4 hr (e1.trans (e2.trans (e3.trans e4)))
theorem mK (hx : RD h x p) (hy : RD h y q) (hsz : szQ p + szQ q ≤ 4000) (K : ∀ r h', RD h' r (p + q) → Ext h h' → Q r h') : ge x y h Q := by
  have n1 := aG p; have n2 := aG q; have n3 := aP p; have n4 := aP q
  have d1 := hx.num.len_nl n1; have d2 := hy.num.len_nl n2; have d3 := hx.den.len_nl n3; have d4 := hy.den.len_nl n4
  have hd : p.den * q.den ≠ 0 := Nat.mul_ne_zero p.den_nz q.den_nz
  have m1 := kS p.num q.den
  have m2 := kS q.num p.den
  have m3 := d9 p.den q.den
  have m4 := aco (p.num * q.den) (q.num * p.den)
  have m5 := d9 p.num.natAbs q.den
  have m6 := d9 q.num.natAbs p.den
  simp only [Int.natAbs_natCast] at m1 m2
  refine ae fun h1 e1 => ?_
  have X := hx.ext e1; have Y := hy.ext e1
  refine d7 X.num Y.den (by omega) (by omega) fun a h2 ha e2 _ => ?_
  refine d7 (Y.ext e2).num (X.ext e2).den (by omega) (by omega) fun b h3 hb e3 _ => ?_
  refine d7 ((X.ext e2).ext e3).den ((Y.ext e2).ext e3).den (by omega) (by omega) fun d h4 hd4 e4 _ => ?_
  have e14 := e2.trans (e3.trans e4)
  have ha4 := (ha.ext e3).ext e4
  have hb4 := hb.ext e4
  have la := ha4.len_nl (k := szQ p + szQ q + 1) (by omega)
  have lb := hb4.len_nl (k := szQ p + szQ q + 1) (by omega)
  have hdp : (0 : Int) < p.den := by have := p.den_nz; omega
  have hdq : (0 : Int) < q.den := by have := q.den_nz; omega
  have sg : ∀ (z : Int) (d : Int), 0 < d → (z * d < 0 ↔ z < 0) := by
    intro z d hd
    constructor
    · intro h
      rcases Int.lt_or_le z 0 with h1 | h1
      · exact h1
      · have := Int.mul_nonneg h1 (Int.le_of_lt hd); omega
    · intro h; exact Int.mul_neg_of_neg_of_pos h hd
  have sp := sg p.num q.den hdq
  have sq := sg q.num p.den hdp
  have ea : p.num.natAbs * q.den = (p.num * q.den).natAbs := by rw [Int.natAbs_mul, Int.natAbs_natCast]
  have eb : q.num.natAbs * p.den = (q.num * p.den).natAbs := by rw [Int.natAbs_mul, Int.natAbs_natCast]
  have fin : ∀ {s : Bool} {n : Sl} {h5 : Heap}, Ext h4 h5 → DN h5 n (p.num * q.den + q.num * p.den).natAbs → (p.num * q.den + q.num * p.den ≠ 0 → s = decide (p.num * q.den + q.num * p.den < 0)) →
      c9 (s, n, d) h5 fun v h6 => Q (v.1, v.2.1, v.2.2) h6 := by
    intro s n h5 e5 hn hs
    refine rp (k := 9000) ⟨hn, hd4.ext e5, hd, hs⟩ (by omega) (by omega) (by omega) fun r h6 hr e6 => ?_
    rw [wT] at hr
    exact K _ h6 hr (e1.trans (e14.trans (e5.trans e6)))
  rw [ea] at ha4 m5
  rw [eb] at hb4 m6
  have hxn := hx.neg
  have hyn := hy.neg
  generalize p.num * q.den = A at *
  generalize q.num * p.den = B at *
  rw [hxn, hyn]
  refine ⟨fun hs => ?_, fun hs => ?_⟩
  · simp only [beq_iff_eq, decide_eq_decide] at hs
    refine yG ha4 hb4 (by omega) (by omega) fun s h5 hs5 e5 _ => fin e5 ?_ ?_
    · have : A.natAbs + B.natAbs = (A + B).natAbs := by omega
      rw [← this]; exact hs5
    · intro _; rw [decide_eq_decide]; omega
  · simp only [beq_eq_false_iff_ne, ne_eq, decide_eq_decide] at hs
    refine jJ ha4 hb4 (by omega) ⟨fun hc => ?_, fun hc => ?_⟩
    · rw [ug] at hc
      simp only [decide_eq_true_eq] at hc
      refine j7 ha4 hb4 (by omega) fun s h5 hs5 e5 _ => fin e5 ?_ ?_
      · have : A.natAbs - B.natAbs = (A + B).natAbs := by omega
        rw [← this]; exact hs5
      · intro _; rw [decide_eq_decide]; omega
    · rw [ug] at hc
      simp only [decide_eq_false_iff_not] at hc
      refine j7 hb4 ha4 (by omega) fun s h5 hs5 e5 _ => fin e5 ?_ ?_
      · have : B.natAbs - A.natAbs = (A + B).natAbs := by omega
        rw [← this]; exact hs5
      · intro _; rw [decide_eq_decide]; omega
end
def cmpR (p q : Rat) : Int := (p - q).num.sign
theorem tp {h : Heap} {x y : Bool × Sl × Sl} {p q : Rat} {Q : Int → Heap → Prop} (hx : RD h x p) (hy : RD h y q) (hsz : szQ p + szQ q ≤ 4000) (K : ∀ h', Ext h h' → Q (cmpR p q) h') : i5 x y h Q := by
  refine ae fun h1 e1 => ?_
  refine seq.cut (fun t h2 => RD h2 t (p - q) ∧ Ext h1 h2) ?_ ?_
  · refine ae fun h2 e2 => yX ((hy.ext e1).ext e2) fun v h3 hv e3 => ae fun h4 e4 => ?_
    refine mK ((((hx.ext e1).ext e2).ext e3).ext e4) (hv.ext e4) (by rw [aaK]; exact hsz) fun r h5 hr e5 => ae fun h6 e6 => ?_
    rw [← Rat.sub_eq_add_neg] at hr
    exact ⟨hr.ext e6, e2.trans (e3.trans (e4.trans (e5.trans e6)))⟩
  · rintro t h2 ⟨ht, e2⟩
    have e := e1.trans e2
    unfold cmpR at K
    refine ⟨fun hl => ?_, fun hl => ?_⟩
    · simp only [beq_iff_eq] at hl
      have : (p - q).num.natAbs = 0 := ht.num.len_zero.1 (by omega)
      have : (p - q).num = 0 := by omega
      rw [this] at K; exact K h2 e
    · have hz : (p - q).num ≠ 0 := fun h0 => by
        have := ht.num.len_zero.2 (by omega)
        simp [this] at hl
      rw [ht.neg]
      refine ⟨fun hn => ?_, fun hn => ?_⟩
      · simp only [decide_eq_true_eq] at hn
        rw [Int.sign_eq_neg_one_of_neg hn] at K; exact K h2 e
      · simp only [decide_eq_false_iff_not] at hn
        rw [Int.sign_eq_one_of_pos (by omega)] at K; exact K h2 e
theorem ach (p q : Rat) : (p.num * q.den - q.num * p.den).sign = cmpR p q := by
  unfold cmpR
  have hd : p.den * q.den ≠ 0 := Nat.mul_ne_zero p.den_nz q.den_nz
  have h1 : p - q = mkRat (p.num * q.den - q.num * p.den) (p.den * q.den) := by
    rw [Rat.sub_eq_add_neg, ← wT, Rat.neg_num, Rat.neg_den, Int.neg_mul, ← Int.sub_eq_add_neg]
  rw [h1]
  generalize p.num * q.den - q.num * p.den = z
  generalize p.den * q.den = m at *
  have hneg := xe z hd
  have habs := sr z hd
  have hz : (mkRat z m).num = 0 ↔ z = 0 := by rw [Rat.num_eq_zero, Rat.mkRat_eq_zero hd]
  rcases Int.lt_trichotomy z 0 with h | h | h
  · rw [Int.sign_eq_neg_one_of_neg h, Int.sign_eq_neg_one_of_neg (hneg.2 h)]
  · subst h; simp
  · rw [Int.sign_eq_one_of_pos h, Int.sign_eq_one_of_pos]
    have : ¬ (mkRat z m).num < 0 := fun h' => by have := hneg.1 h'; omega
    have : (mkRat z m).num ≠ 0 := fun h' => by have := hz.1 h'; omega
    omega
end Go.Sh

namespace Go.Sh
open Go Go.Lift
def isQ (h : Heap) (x : Bool × Sl × Sl) : Prop := ∃ q, RQ h x q
theorem RI.uniq {kd : IntKind} {h : Heap} {s : Sl} {xs ys : List Nat} (hx : RI kd h s xs) (hy : RI kd h s ys) : xs = ys := by
  have := hx.cells.symm.trans hy.cells
  simp only [Option.some.injEq] at this
  have inj : ∀ (xs ys : List Nat), xs.map (fun n : Nat => Value.int kd (n : Int)) = ys.map (fun n : Nat => Value.int kd (n : Int)) → xs = ys := by
    intro xs
    induction xs with
    | nil => intro ys h; cases ys <;> simp_all
    | cons x xs ih =>
      intro ys h
      cases ys with
      | nil => simp at h
      | cons y ys =>
        simp only [List.map_cons, List.cons.injEq, Value.int.injEq, true_and] at h
        rw [ih ys h.2, show x = y from by omega]
  exact inj _ _ this
def Dn (ys : List Nat) : Nat := if val 4294967296 ys = 0 then 1 else val 4294967296 ys
theorem aa2 (ys : List Nat) : Dn ys ≠ 0 := by unfold Dn; split <;> simp_all
def Zn (b : Bool) (xs : List Nat) : Int := if b then -(val 4294967296 xs : Int) else (val 4294967296 xs : Int)
theorem aag (b : Bool) (xs : List Nat) : (Zn b xs).natAbs = val 4294967296 xs := by unfold Zn; split <;> omega
theorem abK {b : Bool} {xs : List Nat} (h : Zn b xs ≠ 0) : b = decide (Zn b xs < 0) := by
  unfold Zn at *
  cases b
  · simp
  · simp at h ⊢; omega
theorem NN.of {h : Heap} {s : Sl} {xs : List Nat} {n : Nat} (hx : RI .u32 h s xs) (hl : Lim 4294967296 xs) (hn : Nrm xs) (hv : val 4294967296 xs = n) (hk : xs.length ≤ 2200000) : NN h s n := ⟨xs, hx, hl, hn, hv, hk⟩
theorem NN.list {h : Heap} {s : Sl} {xs : List Nat} {n : Nat} (hs : NN h s n) (hx : RI .u32 h s xs) : Nrm xs ∧ val 4294967296 xs = n := by
  obtain ⟨ys, y1, y2, y3, y4, _⟩ := hs
  have := RI.uniq hx y1
  subst this
  exact ⟨y3, y4⟩
section
variable {h : Heap} {x : Bool × Sl × Sl} {xs ys : List Nat}
theorem XR.rq (hX : XR h x xs ys) {q : Rat} (hq : RQ h x q) : Nrm xs ∧ Nrm ys ∧ q.num = Zn x.1 xs ∧ q.den = Dn ys ∧ val 4294967296 ys = dn q := by
  obtain ⟨n1, v1⟩ := hq.num.list hX.num
  obtain ⟨n2, v2⟩ := hq.den.list hX.den
  refine ⟨n1, n2, ?_, ?_, v2⟩
  · unfold Zn
    rw [hq.neg]
    by_cases hn : q.num < 0
    · rw [if_pos (by simpa using hn)]; omega
    · rw [if_neg (by simpa using hn)]; omega
  · unfold Dn; rw [v2]; exact (xh q).symm
theorem XR.qval (hX : XR h x xs ys) {q : Rat} (hq : RQ h x q) : q = mkRat (Zn x.1 xs) (Dn ys) := by
  obtain ⟨_, _, h1, h2, _⟩ := hX.rq hq
  rw [← h1, ← h2, Rat.mkRat_self]
theorem XR.isQ_iff (hX : XR h x xs ys) (lx : xs.length ≤ 2200000) (ly : ys.length ≤ 2200000) :
    isQ h x ↔ Nrm xs ∧ Nrm ys ∧ val 4294967296 ys ≠ 1 ∧ (if val 4294967296 xs = 0 then x.1 = false ∧ val 4294967296 ys = 0 else Nat.gcd (val 4294967296 xs) (Dn ys) = 1) := by
  constructor
  · rintro ⟨q, hq⟩
    obtain ⟨n1, n2, h1, h2, h3⟩ := hX.rq hq
    have hz := aag x.1 xs
    refine ⟨n1, n2, ?_, ?_⟩
    · rw [h3]; unfold dn; split
      · decide
      · rename_i h5; exact h5
    · split
      · rename_i h0
        have hq0 : q.num = 0 := by omega
        have : q = 0 := Rat.num_eq_zero.1 hq0
        subst this
        exact ⟨by rw [hq.neg]; rfl, by rw [h3]; rfl⟩
      · rw [← h2, ← hz, ← h1]; exact q.reduced
  · rintro ⟨n1, n2, h1, h2⟩
    refine ⟨mkRat (Zn x.1 xs) (Dn ys), ?_⟩
    have hz := aag x.1 xs
    have a1 := sr (Zn x.1 xs) (aa2 ys)
    have a2 := rR (Zn x.1 xs) (aa2 ys)
    have a3 := xe (Zn x.1 xs) (aa2 ys)
    rw [hz] at a1 a2
    split at h2
    · rename_i h0
      have hzz : Zn x.1 xs = 0 := by omega
      rw [hzz, Rat.zero_mkRat]
      refine ⟨NN.of hX.num hX.lnum n1 h0 lx, NN.of hX.den hX.lden n2 (by rw [h2.2]; rfl) ly, by rw [h2.1]; rfl⟩
    · rename_i h0
      rw [h2, Nat.div_one] at a1 a2
      refine ⟨NN.of hX.num hX.lnum n1 a1.symm lx, NN.of hX.den hX.lden n2 ?_ ly, ?_⟩
      · unfold dn; rw [a2]; unfold Dn
        by_cases hy : val 4294967296 ys = 0
        · simp [hy]
        · simp [hy, h1]
      · have h5 := abK (by omega : Zn x.1 xs ≠ 0)
        exact h5.trans (decide_eq_decide.2 a3.symm)
theorem yR {Q : Bool → Heap → Prop} {y : Bool × Sl × Sl} {q : Rat} (hX : XR h x xs ys) (hy : RQ h y q) (lx : xs.length ≤ 2200000) (ly : ys.length ≤ 2200000) (K : ∀ b h', (b = true ↔ RQ h x q) → Ext h h' → Q b h') : cf x y h Q := by
  refine ae fun h1 e1 => ?_
  have X := hX.ext e1
  obtain ⟨us, vs, hY, u1, u2, _, _⟩ := hy.xr
  obtain ⟨m1, m2, w1, w2, w3⟩ := hY.rq hy
  have Y := hY.ext e1
  have key : RQ h x q ↔ (x.1 = y.1 ∧ xs = us ∧ ys = vs) := by
    constructor
    · intro hq
      obtain ⟨n1, n2, z1, z2, z3⟩ := hX.rq hq
      obtain ⟨_, hv1⟩ := hq.num.list hX.num
      refine ⟨by rw [hq.neg, hy.neg], ?_, ?_⟩
      · exact lr (b := 4294967296) (by decide) hX.lnum hY.lnum n1 m1 (by rw [hv1, u1])
      · exact lr (b := 4294967296) (by decide) hX.lden hY.lden n2 m2 (by rw [z3, u2])
    · rintro ⟨h1, rfl, rfl⟩
      exact ⟨NN.of hX.num hX.lnum m1 u1 lx, NN.of hX.den hX.lden m2 u2 ly, by rw [h1]; exact hy.neg⟩
  refine seq.cut (fun t h2 => (t = true ↔ RQ h x q) ∧ h2 = h1) ?_ ?_
  · rw [key]
    refine ⟨fun hs => ?_, fun hs => ?_⟩
    · simp only [beq_iff_eq] at hs
      refine mX X.num Y.num (by omega) ⟨fun h2 => ?_, fun h2 => ?_⟩
      · simp only [beq_iff_eq] at h2
        refine mX X.den Y.den (by omega) ⟨?_, rfl⟩
        simp [hs, h2]
      · refine ⟨?_, rfl⟩
        simp only [beq_eq_false_iff_ne, ne_eq] at h2
        simp [h2]
    · refine ⟨?_, rfl⟩
      simp only [beq_eq_false_iff_ne, ne_eq] at hs
      simp [hs]
  · rintro t h2 ⟨h3, rfl⟩
    exact K t _ h3 e1
theorem adj {s : Sl} {l : List Nat} {P R : Prop} (hs : RI .u32 h s l) (hk : l.length ≤ 2200000) (k1 : l.getLast? = some 0 → P) (k2 : l.getLast? ≠ some 0 → R) :
    iteB (decide (((s.len : Nat) : Int) > 0)) (idxS s (IntKind.wrap .i64 (((s.len : Nat) : Int) - 1)) 1 fun a => Lift.load (Value.int .u32) a h fun v => iteB (v == 0) P R) R := by
  have hl := hs.len
  refine ⟨fun hp => ?_, fun hp => ?_⟩
  · simp only [gt_iff_lt, decide_eq_true_eq] at hp
    rw [w64 (by omega) (by omega)]
    refine hs.ld (j := l.length - 1) (by omega) (by omega) ?_
    have e : l.getLast? = some (l[l.length - 1]'(by omega)) := by rw [List.getLast?_eq_getElem?, List.getElem?_eq_getElem (by omega)]
    refine ⟨fun hz => k1 ?_, fun hz => k2 ?_⟩
    · simp only [beq_iff_eq] at hz
      rw [e]; congr 1; omega
    · simp only [beq_eq_false_iff_ne, ne_eq] at hz
      rw [e]; intro h; simp only [Option.some.injEq] at h; omega
  · simp only [gt_iff_lt, decide_eq_false_iff_not] at hp
    have : l = [] := List.eq_nil_of_length_eq_zero (by omega)
    subst this
    exact k2 (by simp)
theorem fy {Q : Bool → Heap → Prop} (hX : XR h x xs ys) (lx : xs.length ≤ 2200000) (ly : ys.length ≤ 2200000) (K : ∀ b h', (b = true ↔ isQ h x) → Ext h h' → Q b h') : bp x h Q := by
  have hiff := hX.isQ_iff (by omega) (by omega)
  have lnx := hX.num.len
  refine ae fun h1 e1 => ?_
  have X := hX.ext e1
  refine seq.cut (fun t h2 => (t = true → ¬ isQ h x) ∧ h2 = h1) ?_ ?_
  · have third : ∀ {K0 : Bool → Heap → Prop}, (∀ t, (t = true → ¬ isQ h x) → K0 t h1) → iteB (((x.2.1.len : Nat) : Int) == 0) (K0 x.1 h1) (K0 false h1) := by
      intro K0 k
      refine ⟨fun hl => k _ fun hx1 => ?_, fun _ => k _ (by simp)⟩
      simp only [beq_iff_eq] at hl
      have : xs = [] := List.eq_nil_of_length_eq_zero (by omega)
      subst this
      rw [hiff]
      simp [Lift.val, hx1]
    have second : ∀ {K0 : Bool → Heap → Prop}, (∀ t, (t = true → ¬ isQ h x) → K0 t h1) →
        iteB (decide (((x.2.2.len : Nat) : Int) > 0)) (idxS x.2.2 (IntKind.wrap .i64 (((x.2.2.len : Nat) : Int) - 1)) 1 fun a => Lift.load (Value.int .u32) a h1 fun v => iteB (v == 0) (K0 true h1) (iteB (((x.2.1.len : Nat) : Int) == 0) (K0 x.1 h1) (K0 false h1))) (iteB (((x.2.1.len : Nat) : Int) == 0) (K0 x.1 h1) (K0 false h1)) := by
      intro K0 k
      refine adj X.den (by omega) (fun hz => k true fun _ => ?_) (fun _ => third k)
      rw [hiff]
      exact fun h => h.2.1 hz
    refine adj X.num (by omega) (fun hz => ⟨fun _ => ?_, rfl⟩) (fun _ => ?_)
    · rw [hiff]
      exact fun h => h.1 hz
    · exact second (K0 := fun t h2 => (t = true → ¬ isQ h x) ∧ h2 = h1) (fun t ht => ⟨ht, rfl⟩)
  · rintro t h2 ⟨ht, rfl⟩
    refine ⟨fun hb => ?_, fun hb => ?_⟩
    · refine K false h2 ?_ e1
      simp [ht hb]
    · refine xx X (by omega) (by omega) fun r h3 r1 r2 r3 e3 => ?_
      have nx := si hX.lnum (k := 2200000) (by omega)
      have ny := si hX.lden (k := 2200000) (by omega)
      have nd : nl (Dn ys) ≤ 2200000 := by unfold Dn; split; rw [abM]; omega; omega
      have hz := aag x.1 xs
      refine zf (z := Zn x.1 xs) (m := Dn ys) (k := 2200000) ⟨by rw [hz]; exact r1, r2, aa2 ys, fun hne => by show r.1 = _; rw [r3]; exact abK hne⟩ (by omega) (by rw [hz]; omega) nd fun f h4 hf e4 => ?_
      refine yR ((X.ext e3).ext e4) hf (by omega) (by omega) fun b h5 hbb e5 => ?_
      refine K b h5 ?_ (e1.trans (e3.trans (e4.trans e5)))
      rw [hbb]
      have hX4 := (X.ext e3).ext e4
      constructor
      · intro hq
        obtain ⟨n1, n2, _, _, _⟩ := hX4.rq hq
        have := (hX4.isQ_iff (by omega) (by omega)).1 ⟨_, hq⟩
        exact hiff.2 this
      · rintro ⟨q, hq⟩
        have hq4 : RQ h4 x q := ((hq.ext e1).ext e3).ext e4
        have := hX4.qval hq4
        rw [← this]; exact hq4
end
end Go.Sh

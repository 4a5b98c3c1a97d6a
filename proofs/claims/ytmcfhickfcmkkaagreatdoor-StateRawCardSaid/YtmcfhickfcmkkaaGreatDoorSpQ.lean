/-
  Laws that the proof of this claim's statement leans on, each proved under the conditions that it states.
-/
import Derived.Test.YtmcfhickfcmkkaaGreatDoorSpT
set_option linter.unusedVariables false
set_option linter.unusedSimpArgs false
namespace Go.Sh
open Go Go.Lift
theorem ak {h : Heap} {k : Heap → Prop} (K : ∀ h', Ext h h' → k h') : mem h k := fun h' e => K h' ⟨e.size, fun b hb _ => e.same b hb⟩
def NF (a : Nat) (h : Heap) (s : Sl) (n : Nat) : Prop := NN h s n ∧ (s.blk = some a → n = 0)
theorem NF.keep {a : Nat} {h h' : Heap} {s : Sl} {n : Nat} (hs : NF a h s n) (k : Keep (some a) h h') : NF a h' s n := ⟨hs.1.keep' k hs.2, hs.2⟩
theorem NF.ext {a : Nat} {h h' : Heap} {s : Sl} {n : Nat} (hs : NF a h s n) (k : Ext h h') : NF a h' s n := ⟨hs.1.ext k, hs.2⟩
theorem NN.lt_blk {h : Heap} {s : Sl} {n b : Nat} (hs : NN h s n) (hb : s.blk = some b) (hn : n ≠ 0) : b < h.size := by
  obtain ⟨xs, h1, h2, h3, h4, _⟩ := hs
  cases ha : s.a with
  | none => simp [Sl.blk, ha] at hb
  | some a =>
    simp [Sl.blk, ha] at hb
    subst hb
    refine h1.lt ha fun hx => hn ?_
    subst hx; exact h4.symm
theorem NN.nf {h h' : Heap} {s : Sl} {n a : Nat} (hs : NN h s n) (e : Ext h h') (ha : h.size ≤ a) : NF a h' s n :=
  ⟨hs.ext e, fun hb => Classical.byContradiction fun hn => by have := hs.lt_blk hb hn; omega⟩
theorem NF.of {a : Nat} {h : Heap} {s : Sl} {n : Nat} (hs : NN h s n) (hb : s.blk ≠ some a) : NF a h s n := ⟨hs, fun h => absurd h hb⟩
theorem NF.nil {a : Nat} {h : Heap} : NF a h Sl.nil 0 := ⟨NN.nil, fun _ => rfl⟩
theorem NF.fresh {a : Nat} {h0 h : Heap} {s : Sl} {n : Nat} (hs : NN h s n) (hf : ∀ b, s.blk = some b → h0.size ≤ b) (ha : a < h0.size) : NF a h s n := ⟨hs, fun hb => by have := hf _ hb; omega⟩
theorem my {h : Heap} {Q : Option Addr → Heap → Prop} (K : ∀ a h', Bench h' a 16777216 false → h.size ≤ a.block → Ext h h' → Q (some a) h') : i5 h Q :=
  afS fun a h' hb hab he => K a h' hb (Nat.le_of_eq hab.symm) he
theorem Tab.keep {h h' : Heap} {a : Nat} (ht : Tab h) (k : Keep (some a) h h') (hne : a ≠ aD) : Tab h' :=
  R.keep ht k (fun b hb => by cases hb; simpa using Ne.symm hne)
theorem Tab.lt {h : Heap} (ht : Tab h) : aD < h.size := R.lt ht rfl (by decide)
def TB (a : Nat) (h : Heap) : Prop := Tab h ∧ a ≠ aD
theorem TB.keep {h h' : Heap} {a : Nat} (ht : TB a h) (k : Keep (some a) h h') : TB a h' := ⟨ht.1.keep k ht.2, ht.2⟩
theorem TB.ext {h h' : Heap} {a : Nat} (ht : TB a h) (k : Ext h h') : TB a h' := ⟨R.ext ht.1 k, ht.2⟩
theorem Tab.tb {h h' : Heap} {a : Nat} (ht : Tab h) (e : Ext h h') (ha : h.size ≤ a) : TB a h' := ⟨R.ext ht e, by have := ht.lt; omega⟩
section
variable {a : Addr} {lim : Nat} {x y : Sl} {m n : Nat} {h : Heap}
theorem mulF {Q : Sl → Heap → Prop} (hb : Bench h a lim false) (hx : NF a.block h x m) (hy : NF a.block h y n) (h1 : nl m + nl n ≤ lim) (h2 : nl m + nl n ≤ 100000)
    (K : ∀ r h', Bench h' a lim false → Keep (some a.block) h h' → NF a.block h' r (m * n) → (∀ b, r.blk = some b → h.size ≤ b) → Q r h') : eT (some a) x y h Q := by
  have l1 := hx.1.nl
  have l2 := hy.1.nl
  have l3 := aaD m n
  refine aji hb hx.1.nv hy.1.nv (by omega) (by omega) fun r h' hb' hk hn _ hs => ?_
  rw [agA (by omega)] at hb' hn
  exact K r h' hb' hk (NF.of (hn rfl) (qo hb hs)) hs
theorem addF {Q : Sl → Heap → Prop} (hb : Bench h a lim false) (hx : NF a.block h x m) (hy : NF a.block h y n) (h1 : nl m + nl n + 1 ≤ lim) (h2 : nl m + nl n ≤ 100000)
    (K : ∀ r h', Bench h' a lim false → Keep (some a.block) h h' → NF a.block h' r (m + n) → (∀ b, r.blk = some b → h.size ≤ b) → Q r h') : fX (some a) x y h Q := by
  have l1 := hx.1.nl
  have l2 := hy.1.nl
  have l3 := aj5 m n
  refine abg hb hx.1.nv hy.1.nv (by omega) (by omega) fun r h' hb' hk hn _ hs => ?_
  rw [agA (by omega)] at hb' hn
  exact K r h' hb' hk (NF.of (hn rfl) (qo hb hs)) hs
theorem subF {Q : Sl → Heap → Prop} (hb : Bench h a lim false) (hx : NF a.block h x m) (hy : NF a.block h y n) (h1 : nl m + nl n ≤ lim) (h2 : nl m + nl n ≤ 100000) (hle : n ≤ m)
    (K : ∀ r h', Bench h' a lim false → Keep (some a.block) h h' → NF a.block h' r (m - n) → (∀ b, r.blk = some b → h.size ≤ b) → Q r h') : gR (some a) x y h Q := by
  have l1 := hx.1.nl
  have l2 := hy.1.nl
  have l3 : nl (m - n) ≤ nl m := nH (Nat.sub_le _ _)
  refine ajx hb hx.1.nv hy.1.nv (by omega) (fun hlt => by omega) fun _ r h' hb' hk hn _ hs => ?_
  rw [agA (by omega)] at hb' hn
  exact K r h' hb' hk (NF.of (hn rfl) (qo hb hs)) hs
theorem gcdF {Q : Sl → Heap → Prop} (ht : TB a.block h) (hb : Bench h a lim false) (hx : NF a.block h x m) (hy : NF a.block h y n) (h1 : nl m + nl n ≤ lim) (h2 : nl m ≤ 1050000 ∧ nl n ≤ 1050000)
    (K : ∀ r h', Bench h' a lim false → Keep (some a.block) h h' → NF a.block h' r (Nat.gcd m n) → (∀ b, r.blk = some b → h.size ≤ b) → Q r h') : gX (some a) x y h Q := by
  have l1 := hx.1.nl
  have l2 := hy.1.nl
  have l3 : nl (Nat.gcd m n) ≤ nl m + nl n := by
    by_cases hm : m = 0
    · subst hm; simp
    · have : nl (Nat.gcd m n) ≤ nl m := nH (Nat.le_of_dvd (Nat.pos_of_ne_zero hm) (Nat.gcd_dvd_left m n))
      omega
  refine ajt ht.1 hb hx.1.nv hy.1.nv (by omega) (by omega) hx.2 hy.2 fun r h' hb' hk hn _ hs => ?_
  rw [agA (by omega)] at hb' hn
  exact K r h' hb' hk (NF.of (hn rfl) (qo hb hs)) hs
theorem divF {Q : (Sl × Sl) → Heap → Prop} (hb : Bench h a lim false) (hx : NF a.block h x m) (hy : NF a.block h y n) (h1 : nl m + nl n ≤ lim) (h2 : nl m + nl n ≤ 30000) (hn0 : n ≠ 0)
    (K : ∀ q r h', Bench h' a lim false → Keep (some a.block) h h' → NF a.block h' q (m / n) → NF a.block h' r (m % n) → (∀ b, q.blk = some b → h.size ≤ b) → Q (q, r) h') : gY (some a) x y h Q := by
  have l1 := hx.1.nl
  have l2 := hy.1.nl
  have l3 : nl (m / n) ≤ nl m := nH (Nat.div_le_self _ _)
  have l4 : nl (m % n) ≤ nl m := nH (Nat.mod_le _ _)
  refine ai9 hb hx.1.nv hy.1.nv (by omega) (by omega) (fun h0 => absurd h0 hn0) fun _ q r h' ov hov hb' hk hn _ hs => ?_
  have : ov = false := by
    rw [hov]
    have e1 := agA (lim := lim) (k := nl (m / n)) (by omega)
    rw [e1]
    exact agA (by omega)
  subst this
  exact K q r h' hb' hk (NF.of (hn rfl).1 (qo hb (fun b hbb => hs b (.inl hbb)))) (NF.of (hn rfl).2 (qo hb (fun b hbb => hs b (.inr hbb)))) (fun b hbb => hs b (.inl hbb))
end
def dn (q : Rat) : Nat := if q.den = 1 then 0 else q.den
structure RQ (h : Heap) (x : Bool × Sl × Sl) (q : Rat) : Prop where
  num : NN h x.2.1 q.num.natAbs
  den : NN h x.2.2 (dn q)
  neg : x.1 = decide (q.num < 0)
def szQ (q : Rat) : Nat := max (nl q.num.natAbs) (nl (dn q))
theorem RQ.ext {h h' : Heap} {x : Bool × Sl × Sl} {q : Rat} (hx : RQ h x q) (e : Ext h h') : RQ h' x q := ⟨hx.num.ext e, hx.den.ext e, hx.neg⟩
structure RF (a : Nat) (h : Heap) (x : Bool × Sl × Sl) (q : Rat) : Prop where
  num : NF a h x.2.1 q.num.natAbs
  den : NF a h x.2.2 (dn q)
  neg : x.1 = decide (q.num < 0)
theorem RF.rq {a : Nat} {h : Heap} {x : Bool × Sl × Sl} {q : Rat} (hx : RF a h x q) : RQ h x q := ⟨hx.num.1, hx.den.1, hx.neg⟩
theorem RF.keep {a : Nat} {h h' : Heap} {x : Bool × Sl × Sl} {q : Rat} (hx : RF a h x q) (k : Keep (some a) h h') : RF a h' x q := ⟨hx.num.keep k, hx.den.keep k, hx.neg⟩
theorem RF.ext {a : Nat} {h h' : Heap} {x : Bool × Sl × Sl} {q : Rat} (hx : RF a h x q) (k : Ext h h') : RF a h' x q := ⟨hx.num.ext k, hx.den.ext k, hx.neg⟩
theorem RQ.rf {a : Nat} {h h' : Heap} {x : Bool × Sl × Sl} {q : Rat} (hx : RQ h x q) (e : Ext h h') (ha : h.size ≤ a) : RF a h' x q := ⟨hx.num.nf e ha, hx.den.nf e ha, hx.neg⟩
theorem RQ.zero {h : Heap} : RQ h (false, Sl.nil, Sl.nil) 0 := ⟨NN.nil, by rw [show dn 0 = 0 from rfl]; exact NN.nil, rfl⟩
theorem RF.zero {a : Nat} {h : Heap} : RF a h (false, Sl.nil, Sl.nil) 0 := ⟨NF.nil, by rw [show dn 0 = 0 from rfl]; exact NF.nil, rfl⟩
def Fr (h : Heap) (x : Bool × Sl × Sl) : Prop := (∀ b, x.2.1.blk = some b → h.size ≤ b) ∧ (∀ b, x.2.2.blk = some b → h.size ≤ b)
theorem Fr.nil {h : Heap} {s : Bool} : Fr h (s, Sl.nil, Sl.nil) := ⟨fun b hb => (by cases hb), fun b hb => (by cases hb)⟩
theorem Fr.mono {h h' : Heap} {x : Bool × Sl × Sl} (hf : Fr h' x) (e : h.size ≤ h'.size) : Fr h x := ⟨fun b hb => Nat.le_trans e (hf.1 b hb), fun b hb => Nat.le_trans e (hf.2 b hb)⟩
theorem RQ.rff {a : Nat} {h0 h : Heap} {x : Bool × Sl × Sl} {q : Rat} (hx : RQ h x q) (hf : Fr h0 x) (ha : a < h0.size) : RF a h x q := ⟨NF.fresh hx.num hf.1 ha, NF.fresh hx.den hf.2 ha, hx.neg⟩
theorem aj3 : nl 1 = 1 := by rw [aaG (by decide)]; simp [nF]
theorem alV (q : Rat) : nl q.den ≤ max 1 (nl (dn q)) := by
  unfold dn
  split
  · rename_i h; rw [h, aj3]; omega
  · omega
theorem wj {h : Heap} {Q : Sl → Heap → Prop} (K : ∀ r h', NN h' r 1 → Ext h h' → (∀ b, r.blk = some b → h.size ≤ b) → Q r h') : tH h Q := by
  refine new1 (m := 1) rfl fun h' hr he hsz => K _ h' ⟨[1], hr, by intro z hz; simp at hz; omega, by simp [Nrm], by simp [val], by simp⟩ he (fun b hb => ?_)
  simp [Sl.blk] at hb; omega
theorem wA {h : Heap} {x : Bool × Sl × Sl} {q : Rat} {a : Nat} {Q : Sl → Heap → Prop} (hx : NF a h x.2.2 (dn q)) (ha : a < h.size) (K : ∀ r h', NF a h' r q.den → Ext h h' → Q r h') : gE x h Q := by
  refine ak fun h1 e1 => ⟨fun hz => ?_, fun hz => ?_⟩
  · simp only [beq_iff_eq] at hz
    have h0 : dn q = 0 := hx.1.len_zero.1 (by omega)
    have : q.den = 1 := by
      unfold dn at h0
      split at h0
      · assumption
      · exact absurd h0 q.den_nz
    refine wj fun r h2 hr e2 hf => K r h2 ?_ (e1.trans e2)
    rw [this]
    exact NF.fresh hr hf (by have := e1.size; omega)
  · have hz' : dn q ≠ 0 := fun h0 => by
      have := hx.1.len_zero.2 h0
      simp [this] at hz
    have : dn q = q.den := by
      unfold dn at hz' ⊢
      split
      · rename_i h1; rw [if_pos h1] at hz'; exact absurd rfl hz'
      · rfl
    rw [← this] at K
    exact K _ h1 (hx.ext e1) e1
theorem agS {a b : Sl} {xs ys : List Nat} {h : Heap} {Q : Bool → Heap → Prop} (ha : RI .u32 h a xs) (hb : RI .u32 h b ys) (hl : xs.length ≤ 2200000) (K : Q (xs == ys) h) : dT a b h Q := by
  have la := ha.len
  have lb := hb.len
  refine ⟨fun hne => ?_, fun heq => ?_⟩
  · have : (xs == ys) = false := by
      simp only [bne_iff_ne, ne_eq] at hne
      simp only [beq_eq_false_iff_ne, ne_eq]
      rintro rfl; omega
    rw [this] at K; exact K
  · have hlen : xs.length = ys.length := by
      simp only [bne_eq_false_iff_eq] at heq; omega
    refine loop.inv (fun s h' => h' = h ∧ ∃ i : Nat, s = (i : Int) ∧ i ≤ xs.length ∧ xs.take i = ys.take i) (fun s _ => xs.length - s.toNat) ⟨rfl, 0, rfl, by omega, rfl⟩ ?_
    rintro s h' ⟨rfl, i, rfl, hi, hpre⟩
    refine ⟨fun hlt => ?_, fun hge => ?_⟩
    · simp only [decide_eq_true_eq] at hlt
      refine ha.ld (j := i) rfl (by omega) (hb.ld (j := i) rfl (by omega) ⟨fun hn => ?_, fun he => ?_⟩)
      · have : (xs == ys) = false := by
          simp only [bne_iff_ne, ne_eq] at hn
          simp only [beq_eq_false_iff_ne, ne_eq]
          rintro rfl; exact hn rfl
        rw [this] at K; exact K
      · rw [w64 (by omega) (by omega)]
        simp only [bne_eq_false_iff_eq] at he
        refine ⟨⟨rfl, i + 1, rfl, by omega, ?_⟩, by omega⟩
        rw [List.take_succ_eq_append_getElem (by omega), List.take_succ_eq_append_getElem (by omega), hpre]
        congr 2
        omega
    · simp only [decide_eq_false_iff_not] at hge
      have : xs = ys := by
        rw [List.take_of_length_le (by omega), List.take_of_length_le (by omega)] at hpre; exact hpre
      have h2 : (xs == ys) = true := by rw [this]; simp
      rw [h2] at K; exact K
theorem ul {h : Heap} {x : Sl} {n : Nat} {Q : Bool → Heap → Prop} (hx : NN h x n) (K : ∀ h', Ext h h' → Q (decide (n = 1)) h') : jv x h Q := by
  refine wj fun r h1 hr e1 _ => ?_
  obtain ⟨xs, x1, x2, x3, x4, x5⟩ := hx.ext e1
  obtain ⟨ys, y1, y2, y3, y4, y5⟩ := hr
  refine agS x1 y1 x5 ?_
  have : (xs == ys) = decide (n = 1) := by
    rw [Bool.eq_iff_iff]
    simp only [beq_iff_eq, decide_eq_true_eq]
    constructor
    · rintro rfl; rw [← x4, y4]
    · intro h1; exact ala (b := 4294967296) (by decide) x2 y2 x3 y3 (by rw [x4, y4, h1])
  rw [this]
  exact K h1 e1
end Go.Sh

namespace Go.Sh
open Go Go.Lift
theorem agi (z : Int) {m : Nat} (hm : m ≠ 0) : (mkRat z m).num.natAbs = z.natAbs / Nat.gcd z.natAbs m := by
  rw [Rat.num_mkRat, if_neg hm, Nat.gcd_comm, Int.natAbs_ediv_of_dvd]
  · simp
  · exact Int.ofNat_dvd_left.2 (Nat.gcd_dvd_left _ _)
theorem ah2 (z : Int) {m : Nat} (hm : m ≠ 0) : (mkRat z m).den = m / Nat.gcd z.natAbs m := by
  rw [Rat.den_mkRat, if_neg hm, Nat.gcd_comm]
theorem ahI (z : Int) {m : Nat} (hm : m ≠ 0) : (mkRat z m).num < 0 ↔ z < 0 := by
  rw [Rat.num_mkRat, if_neg hm]
  have hg : 0 < Nat.gcd m z.natAbs := Nat.gcd_pos_of_pos_left _ (Nat.pos_of_ne_zero hm)
  have hd : ((Nat.gcd m z.natAbs : Nat) : Int) ∣ z := Int.ofNat_dvd_left.2 (Nat.gcd_dvd_right _ _)
  obtain ⟨c, hc⟩ := hd
  generalize Nat.gcd m z.natAbs = g at *
  subst hc
  rw [Int.mul_ediv_cancel_left _ (by omega)]
  constructor
  · intro h; exact Int.mul_neg_of_pos_of_neg (by omega) h
  · intro h
    rcases Int.lt_or_le c 0 with h1 | h1
    · exact h1
    · have := Int.mul_nonneg (a := (g : Int)) (b := c) (by omega) h1; omega
theorem ahn {h : Heap} {neg : Bool} {num d : Sl} {z : Int} {m : Nat} {Q : (Bool × Sl × Sl) → Heap → Prop} (ht : Tab h) (hn : NN h num z.natAbs) (hd : NN h d m) (hm : m ≠ 0) (hz : z ≠ 0 → neg = decide (z < 0)) (hsz : nl z.natAbs + nl m ≤ 10000)
    (K : ∀ r h', RQ h' r (mkRat z m) → Fr h r → Ext h h' → Q r h') : mM neg num d h Q := by
  refine ak fun h1 e1 => my fun f h2 hb2 hf2 e2 => ?_
  have e12 := e1.trans e2
  have hfs : h.size ≤ f.block := by have := e1.size; omega
  have n2 := hn.nf e12 hfs
  have d2 := hd.nf e12 hfs
  have t2 := ht.tb e12 hfs
  refine gcdF t2 hb2 n2 d2 (by omega) (by omega) fun g h3 hb3 k3 hg _ => ?_
  have hgpos : Nat.gcd z.natAbs m ≠ 0 := fun h0 => hm (Nat.eq_zero_of_gcd_eq_zero_right h0)
  have lg : nl (Nat.gcd z.natAbs m) ≤ nl m := nH (Nat.le_of_dvd (Nat.pos_of_ne_zero hm) (Nat.gcd_dvd_right _ _))
  refine divF hb3 (n2.keep k3) hg (by omega) (by omega) hgpos fun q1 r1 h4 hb4 k4 hq1 _ f1 => ?_
  refine divF hb4 ((d2.keep k3).keep k4) (hg.keep k4) (by omega) (by omega) hgpos fun q2 r2 h5 hb5 k5 hq2 _ f2 => ?_
  have hq1' := hq1.keep k5
  have K' : Ext h h5 := (Keep.of_ext e12).trans (k3.trans (k4.trans k5)) |> fun k => ⟨k.size, fun b hb _ => k.same b hb (by simp; omega)⟩
  have s45 := k4.size
  have s34 := k3.size
  have s2 := e12.size
  rw [← agi z hm] at hq1'
  have hden := ah2 z hm
  rw [← hden] at hq2
  refine seq.cut (fun t h6 => NN h6 t (dn (mkRat z m)) ∧ (∀ b, t.blk = some b → h.size ≤ b) ∧ Ext h5 h6) ?_ ?_
  · refine ul hq2.1 fun h6 e6 => ⟨fun hone => ?_, fun hone => ?_⟩
    · simp only [decide_eq_true_eq] at hone
      refine ⟨?_, fun b hb => (by cases hb), e6⟩
      unfold dn; rw [if_pos hone]; exact NN.nil
    · simp only [decide_eq_false_iff_not] at hone
      refine ⟨?_, fun b hb => ?_, e6⟩
      · unfold dn; rw [if_neg hone]; exact hq2.1.ext e6
      · have := f2 b hb; omega
  · rintro t h6 ⟨ht6, hft, e6⟩
    have hnum := hq1'.1.ext e6
    refine ⟨fun hl => ?_, fun hl => ?_⟩
    · simp only [beq_iff_eq] at hl
      have h0 : (mkRat z m).num.natAbs = 0 := hnum.len_zero.1 (by omega)
      have : mkRat z m = 0 := by rw [← Rat.num_eq_zero]; omega
      rw [this] at K
      exact K _ h6 RQ.zero Fr.nil (K'.trans e6)
    · refine K _ h6 ⟨hnum, ht6, ?_⟩ ⟨fun b hb => ?_, hft⟩ (K'.trans e6)
      · have hz0 : z ≠ 0 := by
          rintro rfl
          have h0 : (mkRat 0 m).num.natAbs = 0 := by simp
          have := hnum.len_zero.2 h0
          simp [this] at hl
        rw [hz hz0]
        exact decide_eq_decide.2 (ahI z hm).symm
      · have := f1 b hb; omega
def val' (ov : Bool) (q : Rat) : Rat := if ov then 0 else q
theorem aiu {a : Addr} {lim : Nat} {ov : Bool} {h : Heap} {x : Bool × Sl × Sl} {q : Rat} {Q : (Bool × Sl × Sl) → Heap → Prop} (hb : Bench h a lim ov) (hx : RF a.block h x q) (hs : szQ q ≤ 100000)
    (K : ∀ r h', Bench h' a lim (ov || decide (lim < szQ q)) → Keep (some a.block) h h' → RF a.block h' r (val' (ov || decide (lim < szQ q)) q) → (∀ h0, Fr h0 x → Fr h0 r) → Q r h') : oM (some a) x h Q := by
  refine ak fun h1 e1 => ?_
  have l1 := hx.num.1.nl
  have l2 := hx.den.1.nl
  unfold szQ at hs
  refine abg (hb.ext e1) (hx.num.1.ext e1).nv NV.nil (by omega) (by simp [Sl.nil]) fun r1 h2 hb2 k2 _ _ _ => ?_
  refine abg hb2 ((hx.ext e1).keep k2).den.1.nv NV.nil (by omega) (by simp [Sl.nil]) fun r2 h3 hb3 k3 _ _ _ => ?_
  rw [Nat.add_zero, Nat.add_zero] at hb3
  have hov : (ov || decide (lim < nl q.num.natAbs) || decide (lim < nl (dn q))) = (ov || decide (lim < szQ q)) := by
    rw [Bool.or_assoc]; congr 1
    unfold szQ
    rw [Bool.eq_iff_iff]; simp; omega
  rw [hov] at hb3
  have k13 := (Keep.of_ext e1).trans (k2.trans k3)
  refine adi hb3 ⟨fun ho => ?_, fun ho => ?_⟩
  · refine K _ h3 hb3 k13 ?_ (fun _ _ => Fr.nil)
    rw [ho]; exact RF.zero
  · refine K _ h3 hb3 k13 ?_ (fun _ hf => hf)
    rw [ho]; exact hx.keep k13
theorem xB {h : Heap} {x : Bool × Sl × Sl} {q : Rat} {Q : Int → Heap → Prop} (hx : RQ h x q) (K : ∀ h', Ext h h' → Q q.num.sign h') : iU x h Q := by
  refine ak fun h1 e1 => ⟨fun hl => ?_, fun hl => ?_⟩
  · simp only [beq_iff_eq] at hl
    have h0 : q.num.natAbs = 0 := hx.num.len_zero.1 (by omega)
    have : q.num = 0 := by omega
    rw [this] at K; exact K h1 e1
  · have h0 : q.num ≠ 0 := fun h0 => by
      have := hx.num.len_zero.2 (by omega)
      simp [this] at hl
    rw [hx.neg]
    refine ⟨fun hn => ?_, fun hn => ?_⟩
    · simp only [decide_eq_true_eq] at hn
      rw [Int.sign_eq_neg_one_of_neg hn] at K; exact K h1 e1
    · simp only [decide_eq_false_iff_not] at hn
      rw [Int.sign_eq_one_of_pos (by omega)] at K; exact K h1 e1
structure WF (a : Nat) (h : Heap) (x : Bool × Sl) (z : Int) : Prop where
  mag : NF a h x.2 z.natAbs
  neg : z ≠ 0 → x.1 = decide (z < 0)
theorem adE {h : Heap} {x : Bool × Sl} {n : Sl} {z : Int} {m : Nat} {Q : (Bool × Sl) → Heap → Prop} (hx : NN h x.2 z.natAbs) (hs : z ≠ 0 → x.1 = decide (z < 0)) (hn : NN h n m) (hm : m ≠ 0) (hsz : nl z.natAbs + nl m ≤ 10000)
    (K : ∀ r h', NN h' r.2 (z * m).natAbs → (z * m ≠ 0 → r.1 = decide (z * m < 0)) → (∀ b, r.2.blk = some b → h.size ≤ b) → Ext h h' → Q r h') : qw x n h Q := by
  refine ak fun h1 e1 => my fun f h2 hb2 hf2 e2 => ?_
  have e12 := e1.trans e2
  have hfs : h.size ≤ f.block := by have := e1.size; omega
  refine mulF hb2 (hx.nf e12 hfs) (hn.nf e12 hfs) (by omega) (by omega) fun r h3 hb3 k3 hr fr => ?_
  have s2 := e12.size
  refine K _ h3 ?_ ?_ (fun b hb => by have := fr b hb; omega) ⟨Nat.le_trans s2 k3.size, fun b hb _ => (k3.same b (by omega) (by simp; omega)).trans (e12.same b hb (by simp))⟩
  · rw [Int.natAbs_mul, Int.natAbs_natCast]; exact hr.1
  · intro hne
    have hz0 : z ≠ 0 := by rintro rfl; simp at hne
    rw [hs hz0, decide_eq_decide]
    have hmp : (0 : Int) < m := by omega
    constructor
    · intro h; exact Int.mul_neg_of_neg_of_pos h hmp
    · intro h
      rcases Int.lt_or_le z 0 with h1 | h1
      · exact h1
      · have := Int.mul_nonneg h1 (Int.le_of_lt hmp); omega
theorem af4 {h : Heap} {x y : Bool × Sl} {z w : Int} {Q : (Bool × Sl) → Heap → Prop} (hx : NN h x.2 z.natAbs) (hxs : z ≠ 0 → x.1 = decide (z < 0)) (hy : NN h y.2 w.natAbs) (hys : w ≠ 0 → y.1 = decide (w < 0)) (hsz : nl z.natAbs + nl w.natAbs ≤ 10000)
    (K : ∀ r h', NN h' r.2 (z + w).natAbs → (z + w ≠ 0 → r.1 = decide (z + w < 0)) → (∀ b, r.2.blk = some b → h.size ≤ b) → Ext h h' → Q r h') : sF x y h Q := by
  refine ak fun h1 e1 => my fun f h2 hb2 hf2 e2 => ?_
  have e12 := e1.trans e2
  have hfs : h.size ≤ f.block := by have := e1.size; omega
  have x2 := hx.nf e12 hfs
  have y2 := hy.nf e12 hfs
  have s2 := e12.size
  have fin : ∀ {h3 : Heap}, Keep (some f.block) h2 h3 → Ext h h3 := fun k3 => ⟨Nat.le_trans s2 k3.size, fun b hb _ => (k3.same b (by omega) (by simp; omega)).trans (e12.same b hb (by simp))⟩
  refine ⟨fun hs => ?_, fun hs => ?_⟩
  · simp only [beq_iff_eq] at hs
    refine addF hb2 x2 y2 (by omega) (by omega) fun r h3 hb3 k3 hr fr => ?_
    have key : (z + w).natAbs = z.natAbs + w.natAbs ∧ (z + w ≠ 0 → x.1 = decide (z + w < 0)) := by
      by_cases hz0 : z = 0
      · subst hz0
        refine ⟨by simp, fun hne => ?_⟩
        rw [hs, hys (by omega)]; congr 1; simp
      · have h1 := hxs hz0
        by_cases hw0 : w = 0
        · subst hw0
          refine ⟨by simp, fun hne => ?_⟩
          rw [h1]; congr 1; simp
        · have h2 := hys hw0
          have : decide (z < 0) = decide (w < 0) := by rw [← h1, ← h2, hs]
          rw [decide_eq_decide] at this
          refine ⟨by omega, fun _ => ?_⟩
          rw [h1, decide_eq_decide]; omega
    refine K _ h3 (by rw [key.1]; exact hr.1) key.2 (fun b hb => by have := fr b hb; omega) (fin k3)
  · simp only [beq_eq_false_iff_ne, ne_eq] at hs
    have key : z ≠ 0 → w ≠ 0 → (z < 0 ↔ ¬ w < 0) := by
      intro hz hw
      have h1 := hxs hz
      have h2 := hys hw
      by_cases h3 : z < 0 <;> by_cases h4 : w < 0 <;> simp_all
    refine rW x2.1.nv y2.1.nv ⟨fun hc => ?_, fun hc => ?_⟩
    · rw [akb] at hc
      simp only [decide_eq_true_eq] at hc
      refine subF hb2 x2 y2 (by omega) (by omega) hc fun r h3 hb3 k3 hr fr => ?_
      have k2 : (z + w).natAbs = z.natAbs - w.natAbs ∧ (z + w ≠ 0 → x.1 = decide (z + w < 0)) := by
        by_cases hw0 : w = 0
        · subst hw0
          refine ⟨by simp, fun hne => ?_⟩
          rw [hxs (by omega)]; congr 1; simp
        · have hz0 : z ≠ 0 := by omega
          have := key hz0 hw0
          refine ⟨by omega, fun hne => ?_⟩
          rw [hxs hz0, decide_eq_decide]; omega
      refine K _ h3 (by rw [k2.1]; exact hr.1) k2.2 (fun b hb => by have := fr b hb; omega) (fin k3)
    · rw [akb] at hc
      simp only [decide_eq_false_iff_not] at hc
      refine subF hb2 y2 x2 (by omega) (by omega) (by omega) fun r h3 hb3 k3 hr fr => ?_
      have k2 : (z + w).natAbs = w.natAbs - z.natAbs ∧ (z + w ≠ 0 → y.1 = decide (z + w < 0)) := by
        have hw0 : w ≠ 0 := by omega
        by_cases hz0 : z = 0
        · subst hz0
          refine ⟨by simp, fun hne => ?_⟩
          rw [hys hw0]; congr 1; simp
        · have := key hz0 hw0
          refine ⟨by omega, fun hne => ?_⟩
          rw [hys hw0, decide_eq_decide]; omega
      refine K _ h3 (by rw [k2.1]; exact hr.1) k2.2 (fun b hb => by have := fr b hb; omega) (fin k3)
end Go.Sh

namespace Go.Sh
open Go Go.Lift
theorem eZ (q : Rat) : nl q.num.natAbs ≤ szQ q := Nat.le_max_left _ _
theorem abu (q : Rat) : nl (dn q) ≤ szQ q := Nat.le_max_right _ _
theorem gq (q : Rat) : nl q.den ≤ szQ q + 1 := by
  have := alV q; have := abu q; omega
theorem akv (z : Int) {m : Nat} (hm : m ≠ 0) : szQ (mkRat z m) ≤ max (nl z.natAbs) (nl m) := by
  unfold szQ
  have h1 : nl (mkRat z m).num.natAbs ≤ nl z.natAbs := by rw [agi z hm]; exact nH (Nat.div_le_self _ _)
  have h2 : nl (dn (mkRat z m)) ≤ nl m := by
    unfold dn
    split
    · rw [nF]; omega
    · rw [ah2 z hm]; exact nH (Nat.div_le_self _ _)
  omega
theorem ad1 (z w : Int) : nl (z * w).natAbs ≤ nl z.natAbs + nl w.natAbs := by rw [Int.natAbs_mul]; exact aaD _ _
theorem alD (z w : Int) : nl (z + w).natAbs ≤ max (nl z.natAbs) (nl w.natAbs) + 1 :=
  Nat.le_trans (nH (Int.natAbs_add_le z w)) (aj5 _ _)
theorem aiy (p q : Rat) : mkRat (p.num * q.den + q.num * p.den) (p.den * q.den) = p + q := by
  rw [Rat.add_def, Rat.normalize_eq_mkRat]
theorem aki (p q : Rat) : mkRat (p.num * q.num) (p.den * q.den) = p * q := by
  rw [Rat.mul_def, Rat.normalize_eq_mkRat]
theorem ako (p q : Rat) : szQ (p + q) ≤ szQ p + szQ q + 2 := by
  rw [← aiy]
  have hd : p.den * q.den ≠ 0 := Nat.mul_ne_zero p.den_nz q.den_nz
  have h0 := akv (p.num * q.den + q.num * p.den) hd
  have h1 := alD (p.num * q.den) (q.num * p.den)
  have h2 := ad1 p.num q.den
  have h3 := ad1 q.num p.den
  have h4 := aaD p.den q.den
  have := eZ p; have := eZ q; have := gq p; have := gq q
  simp only [Int.natAbs_natCast] at h2 h3
  omega
theorem ajZ (p q : Rat) : szQ (p * q) ≤ szQ p + szQ q + 2 := by
  rw [← aki]
  have hd : p.den * q.den ≠ 0 := Nat.mul_ne_zero p.den_nz q.den_nz
  have h0 := akv (p.num * q.num) hd
  have h2 := ad1 p.num q.num
  have h4 := aaD p.den q.den
  have := eZ p; have := eZ q; have := gq p; have := gq q
  omega
theorem aaU {h : Heap} {x y : Bool × Sl × Sl} {p q : Rat} {Q : ((Bool × Sl) × (Bool × Sl)) → Heap → Prop} (hx : RQ h x p) (hy : RQ h y q) (hsz : szQ p + szQ q ≤ 6000) (h0 : 0 < h.size)
    (K : ∀ r h', NN h' r.1.2 (p.num * q.den).natAbs → (p.num * q.den ≠ 0 → r.1.1 = decide (p.num * q.den < 0)) → NN h' r.2.2 (q.num * p.den).natAbs → (q.num * p.den ≠ 0 → r.2.1 = decide (q.num * p.den < 0)) → Ext h h' → Q r h') : nC x y h Q := by
  have := eZ p; have := eZ q; have := gq p; have := gq q
  have nf : ∀ {h1 : Heap} {s : Sl} {n : Nat}, NN h1 s n → NF h1.size h1 s n := fun hs => hs.nf (Keep.refl _ _) (Nat.le_refl _)
  have den : ∀ {h1 : Heap} {x : Bool × Sl × Sl} {q : Rat} {Q : Sl → Heap → Prop}, RQ h1 x q → (∀ r h', NN h' r q.den → Ext h1 h' → Q r h') → gE x h1 Q := by
    intro h1 x q Q hx K
    refine ak fun h2 e2 => ⟨fun hz => ?_, fun hz => ?_⟩
    · simp only [beq_iff_eq] at hz
      have h0 : dn q = 0 := hx.den.len_zero.1 (by omega)
      have : q.den = 1 := by
        unfold dn at h0
        split at h0
        · assumption
        · exact absurd h0 q.den_nz
      exact wj fun r h3 hr e3 _ => K r h3 (by rw [this]; exact hr) (e2.trans e3)
    · have hz' : dn q ≠ 0 := fun h0 => by
        have := hx.den.len_zero.2 h0
        simp [this] at hz
      have : dn q = q.den := by
        unfold dn at hz' ⊢
        split
        · rename_i h1; rw [if_pos h1] at hz'; exact absurd rfl hz'
        · rfl
      rw [← this] at K
      exact K _ h2 (hx.den.ext e2) e2
  refine ak fun h1 e1 => ?_
  refine den (hy.ext e1) fun d1 h2 hd1 e2 => ?_
  refine adE ((hx.ext e1).ext e2).num (fun _ => hx.neg) hd1 q.den_nz (by omega) fun r1 h3 hr1 hs1 _ e3 => ?_
  have e13 := e1.trans (e2.trans e3)
  refine den (hx.ext e13) fun d2 h4 hd2 e4 => ?_
  refine adE ((hy.ext e13).ext e4).num (fun _ => hy.neg) hd2 p.den_nz (by omega) fun r2 h5 hr2 hs2 _ e5 => ?_
  exact K _ h5 ((hr1.ext e4).ext e5) hs1 hr2 hs2 (e13.trans (e4.trans e5))
section
variable {a : Addr} {lim : Nat} {ov : Bool} {h : Heap} {x y : Bool × Sl × Sl} {p q : Rat} {Q : (Bool × Sl × Sl) → Heap → Prop}
theorem acS {h' : Heap} {neg : Bool} {num d : Sl} {z : Int} {m : Nat} (ht : TB a.block h) (hb : Bench h a lim ov) (e : Ext h h') (hn : NN h' num z.natAbs) (hd : NN h' d m) (hm : m ≠ 0) (hz : z ≠ 0 → neg = decide (z < 0)) (hsz : nl z.natAbs + nl m ≤ 10000)
    (K : ∀ r h', Bench h' a lim (ov || decide (lim < szQ (mkRat z m))) → Keep (some a.block) h h' → RF a.block h' r (val' (ov || decide (lim < szQ (mkRat z m))) (mkRat z m)) → Fr h r → Q r h') :
    mM neg num d h' (fun v h1 => oM (some a) (v.1, v.2.1, v.2.2) h1 fun v h2 => Q (v.1, v.2.1, v.2.2) h2) := by
  have hs := akv z hm
  have hba := hb.lt
  have se := e.size
  refine ahn (R.ext ht.1 e) hn hd hm hz hsz fun r h1 hr fr e1 => ?_
  refine aiu (hb.ext (e.trans e1)) (hr.rff (h0 := h) (fr.mono se) hba) (by omega) fun r2 h2 hb2 k2 hr2 f2 => ?_
  exact K r2 h2 hb2 ((Keep.of_ext (e.trans e1)).trans k2) hr2 (f2 h (fr.mono se))
theorem ai5 (ht : TB a.block h) (hb : Bench h a lim ov) (hx : RQ h x p) (hy : RQ h y q) (hsz : szQ p + szQ q ≤ 3000)
    (K : ∀ r h', Bench h' a lim (ov || decide (lim < szQ (p + q))) → Keep (some a.block) h h' → RF a.block h' r (val' (ov || decide (lim < szQ (p + q))) (p + q)) → Fr h r → Q r h') : oY (some a) x y h Q := by
  have hba := hb.lt
  have n1 := eZ p; have n2 := eZ q; have n3 := gq p; have n4 := gq q
  have hd : p.den * q.den ≠ 0 := Nat.mul_ne_zero p.den_nz q.den_nz
  have m1 := ad1 p.num q.den
  have m2 := ad1 q.num p.den
  have m3 := aaD p.den q.den
  have m4 := alD (p.num * q.den) (q.num * p.den)
  simp only [Int.natAbs_natCast] at m1 m2
  refine ak fun h1 e1 => ?_
  refine aaU (hx.ext e1) (hy.ext e1) (by omega) (by have := e1.size; omega) fun r h2 hr1 hs1 hr2 hs2 e2 => ?_
  refine af4 hr1 hs1 hr2 hs2 (by omega) fun s h3 hs3 hn3 _ e3 => ?_
  have e03 := e1.trans (e2.trans e3)
  refine ak fun h4 e4 => my fun f h5 hb5 hf5 e5 => ?_
  have e05 := e03.trans (e4.trans e5)
  have hfs : h.size ≤ f.block := by have := e03.size; have := e4.size; omega
  have bl5 := hb5.lt
  refine wA (hx.rf e05 hfs).den bl5 fun d1 h6 hd1 e6 => wA ((hy.rf e05 hfs).den.ext e6) (by have := e6.size; omega) fun d2 h7 hd2 e7 => ?_
  have hb7 := (hb5.ext e6).ext e7
  refine mulF hb7 (hd1.ext e7) hd2 (by omega) (by omega) fun d3 h8 hb8 k8 hd3 _ => ?_
  have e38 : Ext h3 h8 := (e4.trans (e5.trans (e6.trans e7))).fresh (by have := e4.size; omega) k8
  refine acS (z := p.num * q.den + q.num * p.den) (m := p.den * q.den) ht hb (e03.trans e38) (hs3.ext e38) hd3.1 hd hn3 (by omega) fun r9 h9 hb9 k9 hr9 fr9 => ?_
  rw [aiy] at hb9 hr9
  exact K r9 h9 hb9 k9 hr9 fr9
theorem alu {z w : Int} {b c : Bool} (hz : b = decide (z < 0)) (hw : c = decide (w < 0)) (hne : z * w ≠ 0) : (!(b == c)) = decide (z * w < 0) := by
  subst hz hw
  have hz : z ≠ 0 := by rintro rfl; simp at hne
  have hw : w ≠ 0 := by rintro rfl; simp at hne
  by_cases h1 : z < 0 <;> by_cases h2 : w < 0
  · have := Int.mul_pos_of_neg_of_neg h1 h2
    simp [h1, h2]; omega
  · have := Int.mul_neg_of_neg_of_pos h1 (show 0 < w by omega)
    simp [h1, h2]; omega
  · have := Int.mul_neg_of_pos_of_neg (show 0 < z by omega) h2
    simp [h1, h2]; omega
  · have := Int.mul_pos (show 0 < z by omega) (show 0 < w by omega)
    simp [h1, h2]; omega
theorem aia (ht : TB a.block h) (hb : Bench h a lim ov) (hx : RQ h x p) (hy : RQ h y q) (hsz : szQ p + szQ q ≤ 3000)
    (K : ∀ r h', Bench h' a lim (ov || decide (lim < szQ (p * q))) → Keep (some a.block) h h' → RF a.block h' r (val' (ov || decide (lim < szQ (p * q))) (p * q)) → Fr h r → Q r h') : pO (some a) x y h Q := by
  have n1 := eZ p; have n2 := eZ q; have n3 := gq p; have n4 := gq q
  have hd : p.den * q.den ≠ 0 := Nat.mul_ne_zero p.den_nz q.den_nz
  have m1 := ad1 p.num q.num
  have m3 := aaD p.den q.den
  refine ak fun h1 e1 => my fun f h2 hb2 hf2 e2 => ?_
  have e02 := e1.trans e2
  have hfs : h.size ≤ f.block := by have := e1.size; omega
  have X := hx.rf e02 hfs
  have Y := hy.rf e02 hfs
  have bl := hb2.lt
  refine mulF hb2 X.num Y.num (by omega) (by omega) fun r1 h3 hb3 k3 hr1 _ => ?_
  have s3 := k3.size
  refine wA (X.keep k3).den (by omega) fun d1 h4 hd1 e4 => wA ((Y.keep k3).ext e4).den (by have := e4.size; omega) fun d2 h5 hd2 e5 => ?_
  have e45 := e4.trans e5
  refine mulF (hb3.ext e45) (hd1.ext e5) hd2 (by omega) (by omega) fun d3 h6 hb6 k6 hd3 _ => ?_
  have e06 : Ext h h6 := ((e02.fresh hfs k3).trans e45).fresh hfs k6
  refine acS (z := p.num * q.num) (m := p.den * q.den) ht hb e06 ?_ hd3.1 hd (fun hne => alu hx.neg hy.neg hne) (by omega) fun r9 h9 hb9 k9 hr9 fr9 => ?_
  · rw [Int.natAbs_mul]; exact ((hr1.ext e45).keep k6).1
  · rw [aki] at hb9 hr9
    exact K r9 h9 hb9 k9 hr9 fr9
end
theorem adI {h : Heap} {x y : Bool × Sl × Sl} {p q : Rat} {Q : Int → Heap → Prop} (hx : RQ h x p) (hy : RQ h y q) (hsz : szQ p + szQ q ≤ 3000) (h0 : 0 < h.size)
    (K : ∀ h', Ext h h' → Q (p.num * q.den - q.num * p.den).sign h') : j6 x y h Q := by
  have n1 := eZ p; have n2 := eZ q; have n3 := gq p; have n4 := gq q
  have m1 := ad1 p.num q.den
  have m2 := ad1 q.num p.den
  simp only [Int.natAbs_natCast] at m1 m2
  refine ak fun h1 e1 => ?_
  refine aaU (hx.ext e1) (hy.ext e1) (by omega) (by have := e1.size; omega) fun r h2 hr1 hs1 hr2 hs2 e2 => ?_
  refine ak fun h3 e3 => ?_
  refine af4 (w := -(q.num * p.den)) (hr1.ext e3) hs1 (by rw [Int.natAbs_neg]; exact hr2.ext e3) (fun hne => ?_) (by rw [Int.natAbs_neg]; omega) fun s h4 hs4 hn4 _ e4 => ?_
  · have := hs2 (by omega)
    simp only [this]
    rw [← decide_not, decide_eq_decide]; omega
  · refine ak fun h5 e5 => ?_
    have e := e1.trans (e2.trans (e3.trans (e4.trans e5)))
    rw [← Int.sub_eq_add_neg] at hs4 hn4
    generalize p.num * q.den - q.num * p.den = z at *
    refine ⟨fun hl => ?_, fun hl => ?_⟩
    · simp only [beq_iff_eq] at hl
      have : z.natAbs = 0 := hs4.len_zero.1 (by omega)
      have : z = 0 := by omega
      rw [this] at K; exact K h5 e
    · have hz : z ≠ 0 := fun h0 => by
        have := hs4.len_zero.2 (by omega)
        simp [this] at hl
      rw [hn4 hz]
      refine ⟨fun hn => ?_, fun hn => ?_⟩
      · simp only [decide_eq_true_eq] at hn
        rw [Int.sign_eq_neg_one_of_neg hn] at K; exact K h5 e
      · simp only [decide_eq_false_iff_not] at hn
        rw [Int.sign_eq_one_of_pos (by omega)] at K; exact K h5 e
end Go.Sh

/-
  Laws that the proof of this claim's statement leans on, each proved under the conditions that it states.
-/
import Derived.Test.YtlclchgingkkhaaGreatDoorSpT
set_option linter.unusedVariables false
set_option linter.unusedSimpArgs false
namespace Go.Sh
open Go Go.Lift
theorem ae {h : Heap} {k : Heap → Prop} (K : ∀ h', Ext h h' → k h') : mem h k := fun h' e => K h' ⟨e.size, fun b hb _ => e.same b hb⟩
def NF (a : Nat) (h : Heap) (s : Sl) (n : Nat) : Prop := NN h s n ∧ (s.blk = some a → n = 0)
theorem NF.keep {a : Nat} {h h' : Heap} {s : Sl} {n : Nat} (hs : NF a h s n) (k : Keep (some a) h h') : NF a h' s n := ⟨hs.1.keep' k hs.2, hs.2⟩
theorem NF.ext {a : Nat} {h h' : Heap} {s : Sl} {n : Nat} (hs : NF a h s n) (k : Ext h h') : NF a h' s n := ⟨hs.1.ext k, hs.2⟩
theorem NN.lt_blk {h : Heap} {s : Sl} {n b : Nat} (hs : NN h s n) (hb : s.blk = some b) (hn : n ≠ 0) : b < h.size := by
  obtain ⟨xs, h1, h2, h3, h4, _⟩ := hs
  cases ha : s.a with
  | none => simp [Sl.blk, ha] at hb
  | some a =>
    simp [Sl.blk, ha] at hb
    subst hb
    refine h1.lt ha fun hx => hn ?_
    subst hx; exact h4.symm
theorem NN.nf {h h' : Heap} {s : Sl} {n a : Nat} (hs : NN h s n) (e : Ext h h') (ha : h.size ≤ a) : NF a h' s n :=
  ⟨hs.ext e, fun hb => Classical.byContradiction fun hn => by have := hs.lt_blk hb hn; omega⟩
theorem NF.of {a : Nat} {h : Heap} {s : Sl} {n : Nat} (hs : NN h s n) (hb : s.blk ≠ some a) : NF a h s n := ⟨hs, fun h => absurd h hb⟩
theorem NF.nil {a : Nat} {h : Heap} : NF a h Sl.nil 0 := ⟨NN.nil, fun _ => rfl⟩
theorem NF.fresh {a : Nat} {h0 h : Heap} {s : Sl} {n : Nat} (hs : NN h s n) (hf : ∀ b, s.blk = some b → h0.size ≤ b) (ha : a < h0.size) : NF a h s n := ⟨hs, fun hb => by have := hf _ hb; omega⟩
theorem eM {h : Heap} {Q : Option Addr → Heap → Prop} (K : ∀ a h', Bench h' a 16777216 false → h.size ≤ a.block → Ext h h' → Q (some a) h') : cg h Q :=
  qN fun a h' hb hab he => K a h' hb (Nat.le_of_eq hab.symm) he
theorem Tab.keep {h h' : Heap} {a : Nat} (ht : Tab h) (k : Keep (some a) h h') (hne : a ≠ am) : Tab h' :=
  R.keep ht k (fun b hb => by cases hb; simpa using Ne.symm hne)
theorem Tab.lt {h : Heap} (ht : Tab h) : am < h.size := R.lt ht rfl (by decide)
def TB (a : Nat) (h : Heap) : Prop := Tab h ∧ a ≠ am
theorem TB.keep {h h' : Heap} {a : Nat} (ht : TB a h) (k : Keep (some a) h h') : TB a h' := ⟨ht.1.keep k ht.2, ht.2⟩
theorem TB.ext {h h' : Heap} {a : Nat} (ht : TB a h) (k : Ext h h') : TB a h' := ⟨R.ext ht.1 k, ht.2⟩
theorem Tab.tb {h h' : Heap} {a : Nat} (ht : Tab h) (e : Ext h h') (ha : h.size ≤ a) : TB a h' := ⟨R.ext ht e, by have := ht.lt; omega⟩
section
variable {a : Addr} {lim : Nat} {x y : Sl} {m n : Nat} {h : Heap}
theorem mulF {Q : Sl → Heap → Prop} (hb : Bench h a lim false) (hx : NF a.block h x m) (hy : NF a.block h y n) (h1 : nl m + nl n ≤ lim) (h2 : nl m + nl n ≤ 100000)
    (K : ∀ r h', Bench h' a lim false → Keep (some a.block) h h' → NF a.block h' r (m * n) → (∀ b, r.blk = some b → h.size ≤ b) → Q r h') : aR (some a) x y h Q := by
  have l1 := hx.1.nl
  have l2 := hy.1.nl
  have l3 := d9 m n
  refine aa4 hb hx.1.nv hy.1.nv (by omega) (by omega) fun r h' hb' hk hn _ hs => ?_
  rw [yw (by omega)] at hb' hn
  exact K r h' hb' hk (NF.of (hn rfl) (gG hb hs)) hs
theorem addF {Q : Sl → Heap → Prop} (hb : Bench h a lim false) (hx : NF a.block h x m) (hy : NF a.block h y n) (h1 : nl m + nl n + 1 ≤ lim) (h2 : nl m + nl n ≤ 100000)
    (K : ∀ r h', Bench h' a lim false → Keep (some a.block) h h' → NF a.block h' r (m + n) → (∀ b, r.blk = some b → h.size ≤ b) → Q r h') : bz (some a) x y h Q := by
  have l1 := hx.1.nl
  have l2 := hy.1.nl
  have l3 := ab0 m n
  refine qq hb hx.1.nv hy.1.nv (by omega) (by omega) fun r h' hb' hk hn _ hs => ?_
  rw [yw (by omega)] at hb' hn
  exact K r h' hb' hk (NF.of (hn rfl) (gG hb hs)) hs
theorem subF {Q : Sl → Heap → Prop} (hb : Bench h a lim false) (hx : NF a.block h x m) (hy : NF a.block h y n) (h1 : nl m + nl n ≤ lim) (h2 : nl m + nl n ≤ 100000) (hle : n ≤ m)
    (K : ∀ r h', Bench h' a lim false → Keep (some a.block) h h' → NF a.block h' r (m - n) → (∀ b, r.blk = some b → h.size ≤ b) → Q r h') : bQ (some a) x y h Q := by
  have l1 := hx.1.nl
  have l2 := hy.1.nl
  have l3 : nl (m - n) ≤ nl m := dI (Nat.sub_le _ _)
  refine abi hb hx.1.nv hy.1.nv (by omega) (fun hlt => by omega) fun _ r h' hb' hk hn _ hs => ?_
  rw [yw (by omega)] at hb' hn
  exact K r h' hb' hk (NF.of (hn rfl) (gG hb hs)) hs
theorem gcdF {Q : Sl → Heap → Prop} (ht : TB a.block h) (hb : Bench h a lim false) (hx : NF a.block h x m) (hy : NF a.block h y n) (h1 : nl m + nl n ≤ lim) (h2 : nl m ≤ 1050000 ∧ nl n ≤ 1050000)
    (K : ∀ r h', Bench h' a lim false → Keep (some a.block) h h' → NF a.block h' r (Nat.gcd m n) → (∀ b, r.blk = some b → h.size ≤ b) → Q r h') : cD (some a) x y h Q := by
  have l1 := hx.1.nl
  have l2 := hy.1.nl
  have l3 : nl (Nat.gcd m n) ≤ nl m + nl n := by
    by_cases hm : m = 0
    · subst hm; simp
    · have : nl (Nat.gcd m n) ≤ nl m := dI (Nat.le_of_dvd (Nat.pos_of_ne_zero hm) (Nat.gcd_dvd_left m n))
      omega
  refine aa7 ht.1 hb hx.1.nv hy.1.nv (by omega) (by omega) hx.2 hy.2 fun r h' hb' hk hn _ hs => ?_
  rw [yw (by omega)] at hb' hn
  exact K r h' hb' hk (NF.of (hn rfl) (gG hb hs)) hs
theorem divF {Q : (Sl × Sl) → Heap → Prop} (hb : Bench h a lim false) (hx : NF a.block h x m) (hy : NF a.block h y n) (h1 : nl m + nl n ≤ lim) (h2 : nl m + nl n ≤ 30000) (hn0 : n ≠ 0)
    (K : ∀ q r h', Bench h' a lim false → Keep (some a.block) h h' → NF a.block h' q (m / n) → NF a.block h' r (m % n) → (∀ b, q.blk = some b → h.size ≤ b) → Q (q, r) h') : bT (some a) x y h Q := by
  have l1 := hx.1.nl
  have l2 := hy.1.nl
  have l3 : nl (m / n) ≤ nl m := dI (Nat.div_le_self _ _)
  have l4 : nl (m % n) ≤ nl m := dI (Nat.mod_le _ _)
  refine aaO hb hx.1.nv hy.1.nv (by omega) (by omega) (fun h0 => absurd h0 hn0) fun _ q r h' ov hov hb' hk hn _ hs => ?_
  have : ov = false := by
    rw [hov]
    have e1 := yw (lim := lim) (k := nl (m / n)) (by omega)
    rw [e1]
    exact yw (by omega)
  subst this
  exact K q r h' hb' hk (NF.of (hn rfl).1 (gG hb (fun b hbb => hs b (.inl hbb)))) (NF.of (hn rfl).2 (gG hb (fun b hbb => hs b (.inr hbb)))) (fun b hbb => hs b (.inl hbb))
end
def dn (q : Rat) : Nat := if q.den = 1 then 0 else q.den
structure RQ (h : Heap) (x : Bool × Sl × Sl) (q : Rat) : Prop where
  num : NN h x.2.1 q.num.natAbs
  den : NN h x.2.2 (dn q)
  neg : x.1 = decide (q.num < 0)
def szQ (q : Rat) : Nat := max (nl q.num.natAbs) (nl (dn q))
theorem RQ.ext {h h' : Heap} {x : Bool × Sl × Sl} {q : Rat} (hx : RQ h x q) (e : Ext h h') : RQ h' x q := ⟨hx.num.ext e, hx.den.ext e, hx.neg⟩
structure RF (a : Nat) (h : Heap) (x : Bool × Sl × Sl) (q : Rat) : Prop where
  num : NF a h x.2.1 q.num.natAbs
  den : NF a h x.2.2 (dn q)
  neg : x.1 = decide (q.num < 0)
theorem RF.rq {a : Nat} {h : Heap} {x : Bool × Sl × Sl} {q : Rat} (hx : RF a h x q) : RQ h x q := ⟨hx.num.1, hx.den.1, hx.neg⟩
theorem RF.keep {a : Nat} {h h' : Heap} {x : Bool × Sl × Sl} {q : Rat} (hx : RF a h x q) (k : Keep (some a) h h') : RF a h' x q := ⟨hx.num.keep k, hx.den.keep k, hx.neg⟩
theorem RF.ext {a : Nat} {h h' : Heap} {x : Bool × Sl × Sl} {q : Rat} (hx : RF a h x q) (k : Ext h h') : RF a h' x q := ⟨hx.num.ext k, hx.den.ext k, hx.neg⟩
theorem RQ.rf {a : Nat} {h h' : Heap} {x : Bool × Sl × Sl} {q : Rat} (hx : RQ h x q) (e : Ext h h') (ha : h.size ≤ a) : RF a h' x q := ⟨hx.num.nf e ha, hx.den.nf e ha, hx.neg⟩
theorem RQ.zero {h : Heap} : RQ h (false, Sl.nil, Sl.nil) 0 := ⟨NN.nil, by rw [show dn 0 = 0 from rfl]; exact NN.nil, rfl⟩
theorem RF.zero {a : Nat} {h : Heap} : RF a h (false, Sl.nil, Sl.nil) 0 := ⟨NF.nil, by rw [show dn 0 = 0 from rfl]; exact NF.nil, rfl⟩
def Fr (h : Heap) (x : Bool × Sl × Sl) : Prop := (∀ b, x.2.1.blk = some b → h.size ≤ b) ∧ (∀ b, x.2.2.blk = some b → h.size ≤ b)
theorem Fr.nil {h : Heap} {s : Bool} : Fr h (s, Sl.nil, Sl.nil) := ⟨fun b hb => (by cases hb), fun b hb => (by cases hb)⟩
theorem Fr.mono {h h' : Heap} {x : Bool × Sl × Sl} (hf : Fr h' x) (e : h.size ≤ h'.size) : Fr h x := ⟨fun b hb => Nat.le_trans e (hf.1 b hb), fun b hb => Nat.le_trans e (hf.2 b hb)⟩
theorem RQ.rff {a : Nat} {h0 h : Heap} {x : Bool × Sl × Sl} {q : Rat} (hx : RQ h x q) (hf : Fr h0 x) (ha : a < h0.size) : RF a h x q := ⟨NF.fresh hx.num hf.1 ha, NF.fresh hx.den hf.2 ha, hx.neg⟩
theorem abM : nl 1 = 1 := by rw [pK (by decide)]; simp [eV]
theorem zQ (q : Rat) : nl q.den ≤ max 1 (nl (dn q)) := by
  unfold dn
  split
  · rename_i h; rw [h, abM]; omega
  · omega
theorem rF {h : Heap} {Q : Sl → Heap → Prop} (K : ∀ r h', NN h' r 1 → Ext h h' → (∀ b, r.blk = some b → h.size ≤ b) → Q r h') : jz h Q := by
  refine new1 (m := 1) rfl fun h' hr he hsz => K _ h' ⟨[1], hr, by intro z hz; simp at hz; omega, by simp [Nrm], by simp [val], by simp⟩ he (fun b hb => ?_)
  simp [Sl.blk] at hb; omega
theorem gR {h : Heap} {x : Bool × Sl × Sl} {q : Rat} {a : Nat} {Q : Sl → Heap → Prop} (hx : NF a h x.2.2 (dn q)) (ha : a < h.size) (K : ∀ r h', NF a h' r q.den → Ext h h' → Q r h') : bM x h Q := by
  refine ae fun h1 e1 => ⟨fun hz => ?_, fun hz => ?_⟩
  · simp only [beq_iff_eq] at hz
    have h0 : dn q = 0 := hx.1.len_zero.1 (by omega)
    have : q.den = 1 := by
      unfold dn at h0
      split at h0
      · assumption
      · exact absurd h0 q.den_nz
    refine rF fun r h2 hr e2 hf => K r h2 ?_ (e1.trans e2)
    rw [this]
    exact NF.fresh hr hf (by have := e1.size; omega)
  · have hz' : dn q ≠ 0 := fun h0 => by
      have := hx.1.len_zero.2 h0
      simp [this] at hz
    have : dn q = q.den := by
      unfold dn at hz' ⊢
      split
      · rename_i h1; rw [if_pos h1] at hz'; exact absurd rfl hz'
      · rfl
    rw [← this] at K
    exact K _ h1 (hx.ext e1) e1
theorem yJ {a b : Sl} {xs ys : List Nat} {h : Heap} {Q : Bool → Heap → Prop} (ha : RI .u32 h a xs) (hb : RI .u32 h b ys) (hl : xs.length ≤ 2200000) (K : Q (xs == ys) h) : bd a b h Q := by
  have la := ha.len
  have lb := hb.len
  refine ⟨fun hne => ?_, fun heq => ?_⟩
  · have : (xs == ys) = false := by
      simp only [bne_iff_ne, ne_eq] at hne
      simp only [beq_eq_false_iff_ne, ne_eq]
      rintro rfl; omega
    rw [this] at K; exact K
  · have hlen : xs.length = ys.length := by
      simp only [bne_eq_false_iff_eq] at heq; omega
    refine loop.inv (fun s h' => h' = h ∧ ∃ i : Nat, s = (i : Int) ∧ i ≤ xs.length ∧ xs.take i = ys.take i) (fun s _ => xs.length - s.toNat) ⟨rfl, 0, rfl, by omega, rfl⟩ ?_
    rintro s h' ⟨rfl, i, rfl, hi, hpre⟩
    refine ⟨fun hlt => ?_, fun hge => ?_⟩
    · simp only [decide_eq_true_eq] at hlt
      refine ha.ld (j := i) rfl (by omega) (hb.ld (j := i) rfl (by omega) ⟨fun hn => ?_, fun he => ?_⟩)
      · have : (xs == ys) = false := by
          simp only [bne_iff_ne, ne_eq] at hn
          simp only [beq_eq_false_iff_ne, ne_eq]
          rintro rfl; exact hn rfl
        rw [this] at K; exact K
      · rw [w64 (by omega) (by omega)]
        simp only [bne_eq_false_iff_eq] at he
        refine ⟨⟨rfl, i + 1, rfl, by omega, ?_⟩, by omega⟩
        rw [List.take_succ_eq_append_getElem (by omega), List.take_succ_eq_append_getElem (by omega), hpre]
        congr 2
        omega
    · simp only [decide_eq_false_iff_not] at hge
      have : xs = ys := by
        rw [List.take_of_length_le (by omega), List.take_of_length_le (by omega)] at hpre; exact hpre
      have h2 : (xs == ys) = true := by rw [this]; simp
      rw [h2] at K; exact K
theorem yA {h : Heap} {x : Sl} {n : Nat} {Q : Bool → Heap → Prop} (hx : NN h x n) (K : ∀ h', Ext h h' → Q (decide (n = 1)) h') : iF x h Q := by
  refine rF fun r h1 hr e1 _ => ?_
  obtain ⟨xs, x1, x2, x3, x4, x5⟩ := hx.ext e1
  obtain ⟨ys, y1, y2, y3, y4, y5⟩ := hr
  refine yJ x1 y1 x5 ?_
  have : (xs == ys) = decide (n = 1) := by
    rw [Bool.eq_iff_iff]
    simp only [beq_iff_eq, decide_eq_true_eq]
    constructor
    · rintro rfl; rw [← x4, y4]
    · intro h1; exact lr (b := 4294967296) (by decide) x2 y2 x3 y3 (by rw [x4, y4, h1])
  rw [this]
  exact K h1 e1
end Go.Sh

namespace Go.Sh
open Go Go.Lift
theorem sr (z : Int) {m : Nat} (hm : m ≠ 0) : (mkRat z m).num.natAbs = z.natAbs / Nat.gcd z.natAbs m := by
  rw [Rat.num_mkRat, if_neg hm, Nat.gcd_comm, Int.natAbs_ediv_of_dvd]
  · simp
  · exact Int.ofNat_dvd_left.2 (Nat.gcd_dvd_left _ _)
theorem rR (z : Int) {m : Nat} (hm : m ≠ 0) : (mkRat z m).den = m / Nat.gcd z.natAbs m := by
  rw [Rat.den_mkRat, if_neg hm, Nat.gcd_comm]
theorem xe (z : Int) {m : Nat} (hm : m ≠ 0) : (mkRat z m).num < 0 ↔ z < 0 := by
  rw [Rat.num_mkRat, if_neg hm]
  have hg : 0 < Nat.gcd m z.natAbs := Nat.gcd_pos_of_pos_left _ (Nat.pos_of_ne_zero hm)
  have hd : ((Nat.gcd m z.natAbs : Nat) : Int) ∣ z := Int.ofNat_dvd_left.2 (Nat.gcd_dvd_right _ _)
  obtain ⟨c, hc⟩ := hd
  generalize Nat.gcd m z.natAbs = g at *
  subst hc
  rw [Int.mul_ediv_cancel_left _ (by omega)]
  constructor
  · intro h; exact Int.mul_neg_of_pos_of_neg (by omega) h
  · intro h
    rcases Int.lt_or_le c 0 with h1 | h1
    · exact h1
    · have := Int.mul_nonneg (a := (g : Int)) (b := c) (by omega) h1; omega
theorem zw {h : Heap} {neg : Bool} {num d : Sl} {z : Int} {m : Nat} {Q : (Bool × Sl × Sl) → Heap → Prop} (ht : Tab h) (hn : NN h num z.natAbs) (hd : NN h d m) (hm : m ≠ 0) (hz : z ≠ 0 → neg = decide (z < 0)) (hsz : nl z.natAbs + nl m ≤ 10000)
    (K : ∀ r h', RQ h' r (mkRat z m) → Fr h r → Ext h h' → Q r h') : du neg num d h Q := by
  refine ae fun h1 e1 => eM fun f h2 hb2 hf2 e2 => ?_
  have e12 := e1.trans e2
  have hfs : h.size ≤ f.block := by have := e1.size; omega
  have n2 := hn.nf e12 hfs
  have d2 := hd.nf e12 hfs
  have t2 := ht.tb e12 hfs
  refine gcdF t2 hb2 n2 d2 (by omega) (by omega) fun g h3 hb3 k3 hg _ => ?_
  have hgpos : Nat.gcd z.natAbs m ≠ 0 := fun h0 => hm (Nat.eq_zero_of_gcd_eq_zero_right h0)
  have lg : nl (Nat.gcd z.natAbs m) ≤ nl m := dI (Nat.le_of_dvd (Nat.pos_of_ne_zero hm) (Nat.gcd_dvd_right _ _))
  refine divF hb3 (n2.keep k3) hg (by omega) (by omega) hgpos fun q1 r1 h4 hb4 k4 hq1 _ f1 => ?_
  refine divF hb4 ((d2.keep k3).keep k4) (hg.keep k4) (by omega) (by omega) hgpos fun q2 r2 h5 hb5 k5 hq2 _ f2 => ?_
  have hq1' := hq1.keep k5
  have K' : Ext h h5 := (Keep.of_ext e12).trans (k3.trans (k4.trans k5)) |> fun k => ⟨k.size, fun b hb _ => k.same b hb (by simp; omega)⟩
  have s45 := k4.size
  have s34 := k3.size
  have s2 := e12.size
  rw [← sr z hm] at hq1'
  have hden := rR z hm
  rw [← hden] at hq2
  -- the denominator as it is written
  refine seq.cut (fun t h6 => NN h6 t (dn (mkRat z m)) ∧ (∀ b, t.blk = some b → h.size ≤ b) ∧ Ext h5 h6) ?_ ?_
  · refine yA hq2.1 fun h6 e6 => ⟨fun hone => ?_, fun hone => ?_⟩
    · simp only [decide_eq_true_eq] at hone
      refine ⟨?_, fun b hb => (by cases hb), e6⟩
      unfold dn; rw [if_pos hone]; exact NN.nil
    · simp only [decide_eq_false_iff_not] at hone
      refine ⟨?_, fun b hb => ?_, e6⟩
      · unfold dn; rw [if_neg hone]; exact hq2.1.ext e6
      · have := f2 b hb; omega
  · rintro t h6 ⟨ht6, hft, e6⟩
    have hnum := hq1'.1.ext e6
    refine ⟨fun hl => ?_, fun hl => ?_⟩
    · simp only [beq_iff_eq] at hl
      have h0 : (mkRat z m).num.natAbs = 0 := hnum.len_zero.1 (by omega)
      have : mkRat z m = 0 := by rw [← Rat.num_eq_zero]; omega
      rw [this] at K
      exact K _ h6 RQ.zero Fr.nil (K'.trans e6)
    · refine K _ h6 ⟨hnum, ht6, ?_⟩ ⟨fun b hb => ?_, hft⟩ (K'.trans e6)
      · have hz0 : z ≠ 0 := by
          rintro rfl
          have h0 : (mkRat 0 m).num.natAbs = 0 := by simp
          have := hnum.len_zero.2 h0
          simp [this] at hl
        rw [hz hz0]
        exact decide_eq_decide.2 (xe z hm).symm
      · have := f1 b hb; omega
def val' (ov : Bool) (q : Rat) : Rat := if ov then 0 else q
theorem zu {a : Addr} {lim : Nat} {ov : Bool} {h : Heap} {x : Bool × Sl × Sl} {q : Rat} {Q : (Bool × Sl × Sl) → Heap → Prop} (hb : Bench h a lim ov) (hx : RF a.block h x q) (hs : szQ q ≤ 100000)
    (K : ∀ r h', Bench h' a lim (ov || decide (lim < szQ q)) → Keep (some a.block) h h' → RF a.block h' r (val' (ov || decide (lim < szQ q)) q) → (∀ h0, Fr h0 x → Fr h0 r) → Q r h') : eN (some a) x h Q := by
  refine ae fun h1 e1 => ?_
  have l1 := hx.num.1.nl
  have l2 := hx.den.1.nl
  unfold szQ at hs
  refine qq (hb.ext e1) (hx.num.1.ext e1).nv NV.nil (by omega) (by simp [Sl.nil]) fun r1 h2 hb2 k2 _ _ _ => ?_
  refine qq hb2 ((hx.ext e1).keep k2).den.1.nv NV.nil (by omega) (by simp [Sl.nil]) fun r2 h3 hb3 k3 _ _ _ => ?_
  rw [Nat.add_zero, Nat.add_zero] at hb3
  have hov : (ov || decide (lim < nl q.num.natAbs) || decide (lim < nl (dn q))) = (ov || decide (lim < szQ q)) := by
    rw [Bool.or_assoc]; congr 1
    unfold szQ
    rw [Bool.eq_iff_iff]; simp; omega
  rw [hov] at hb3
  have k13 := (Keep.of_ext e1).trans (k2.trans k3)
  refine bZ hb3 ⟨fun ho => ?_, fun ho => ?_⟩
  · refine K _ h3 hb3 k13 ?_ (fun _ _ => Fr.nil)
    rw [ho]; exact RF.zero
  · refine K _ h3 hb3 k13 ?_ (fun _ hf => hf)
    rw [ho]; exact hx.keep k13
theorem cY {h : Heap} {x : Bool × Sl × Sl} {q : Rat} {Q : Int → Heap → Prop} (hx : RQ h x q) (K : ∀ h', Ext h h' → Q q.num.sign h') : bF x h Q := by
  refine ae fun h1 e1 => ⟨fun hl => ?_, fun hl => ?_⟩
  · simp only [beq_iff_eq] at hl
    have h0 : q.num.natAbs = 0 := hx.num.len_zero.1 (by omega)
    have : q.num = 0 := by omega
    rw [this] at K; exact K h1 e1
  · have h0 : q.num ≠ 0 := fun h0 => by
      have := hx.num.len_zero.2 (by omega)
      simp [this] at hl
    rw [hx.neg]
    refine ⟨fun hn => ?_, fun hn => ?_⟩
    · simp only [decide_eq_true_eq] at hn
      rw [Int.sign_eq_neg_one_of_neg hn] at K; exact K h1 e1
    · simp only [decide_eq_false_iff_not] at hn
      rw [Int.sign_eq_one_of_pos (by omega)] at K; exact K h1 e1
theorem ng {h : Heap} {x : Sl} {n : Nat} {Q : Sl → Heap → Prop} (hx : NN h x n) (K : ∀ r h', NN h' r n → (∀ b, r.blk = some b → h.size ≤ b) → Ext h h' → Q r h') : ar x h Q := by
  obtain ⟨xs, x1, x2, x3, x4, x5⟩ := hx
  exact jK x1 x5 fun r h' ho he => K r h' ⟨xs, ho.r, x2, x3, x4, x5⟩ (fun b hb => (ho.lt hb).1) he
theorem abQ (q : Rat) : dn (-q) = dn q := by unfold dn; rw [Rat.neg_den]
theorem rL (q : Rat) : (-q).num.natAbs = q.num.natAbs := by rw [Rat.neg_num, Int.natAbs_neg]
theorem aaK (q : Rat) : szQ (-q) = szQ q := by unfold szQ; rw [abQ, rL]
theorem nK {h : Heap} {x : Bool × Sl × Sl} {q : Rat} {Q : (Bool × Sl × Sl) → Heap → Prop} (hx : RQ h x q) (K : ∀ r h', RQ h' r (-q) → Fr h r → Ext h h' → Q r h') : gh x h Q := by
  refine ae fun h1 e1 => ?_
  refine seq.cut (fun t h2 => t = decide ((-q).num < 0) ∧ h2 = h1) ?_ ?_
  · rw [Rat.neg_num]
    refine ⟨fun hn => ?_, fun hn => ?_⟩
    · rintro _ rfl
      refine ⟨?_, rfl⟩
      rw [hx.neg] at hn
      simp only [Bool.not_eq_true', decide_eq_false_iff_not] at hn
      rw [decide_eq_decide]
      have := hx.num.len_zero
      constructor
      · intro hl
        have h1 : q.num.natAbs ≠ 0 := fun h0 => by have := this.2 h0; omega
        omega
      · intro hl
        have h1 : x.2.1.len ≠ 0 := fun h0 => by have := this.1 h0; omega
        omega
    · refine ⟨?_, rfl⟩
      rw [hx.neg] at hn
      simp only [Bool.not_eq_false', decide_eq_true_eq] at hn
      symm; rw [decide_eq_false_iff_not]; omega
  · rintro t h2 ⟨rfl, rfl⟩
    refine ng (hx.num.ext e1) fun r1 h3 hr1 f1 e3 => ng ((hx.den.ext e1).ext e3) fun r2 h4 hr2 f2 e4 => ?_
    have s1 := e1.size
    have s3 := e3.size
    refine K _ h4 ⟨?_, ?_, rfl⟩ ⟨fun b hb => ?_, fun b hb => ?_⟩ (e1.trans (e3.trans e4))
    · rw [rL]; exact hr1.ext e4
    · rw [abQ]; exact hr2
    · have := f1 b hb; omega
    · have := f2 b hb; omega
structure WF (a : Nat) (h : Heap) (x : Bool × Sl) (z : Int) : Prop where
  mag : NF a h x.2 z.natAbs
  neg : z ≠ 0 → x.1 = decide (z < 0)
theorem WF.ext {a : Nat} {h h' : Heap} {x : Bool × Sl} {z : Int} (hx : WF a h x z) (e : Ext h h') : WF a h' x z := ⟨hx.mag.ext e, hx.neg⟩
theorem s9 {h : Heap} {x : Bool × Sl} {n : Sl} {z : Int} {m : Nat} {Q : (Bool × Sl) → Heap → Prop} (hx : NN h x.2 z.natAbs) (hs : z ≠ 0 → x.1 = decide (z < 0)) (hn : NN h n m) (hm : m ≠ 0) (hsz : nl z.natAbs + nl m ≤ 10000)
    (K : ∀ r h', NN h' r.2 (z * m).natAbs → (z * m ≠ 0 → r.1 = decide (z * m < 0)) → (∀ b, r.2.blk = some b → h.size ≤ b) → Ext h h' → Q r h') : gT x n h Q := by
  refine ae fun h1 e1 => eM fun f h2 hb2 hf2 e2 => ?_
  have e12 := e1.trans e2
  have hfs : h.size ≤ f.block := by have := e1.size; omega
  refine mulF hb2 (hx.nf e12 hfs) (hn.nf e12 hfs) (by omega) (by omega) fun r h3 hb3 k3 hr fr => ?_
  have s2 := e12.size
  refine K _ h3 ?_ ?_ (fun b hb => by have := fr b hb; omega) ⟨Nat.le_trans s2 k3.size, fun b hb _ => (k3.same b (by omega) (by simp; omega)).trans (e12.same b hb (by simp))⟩
  · rw [Int.natAbs_mul, Int.natAbs_natCast]; exact hr.1
  · intro hne
    have hz0 : z ≠ 0 := by rintro rfl; simp at hne
    rw [hs hz0, decide_eq_decide]
    have hmp : (0 : Int) < m := by omega
    constructor
    · intro h; exact Int.mul_neg_of_neg_of_pos h hmp
    · intro h
      rcases Int.lt_or_le z 0 with h1 | h1
      · exact h1
      · have := Int.mul_nonneg h1 (Int.le_of_lt hmp); omega
theorem xt {h : Heap} {x y : Bool × Sl} {z w : Int} {Q : (Bool × Sl) → Heap → Prop} (hx : NN h x.2 z.natAbs) (hxs : z ≠ 0 → x.1 = decide (z < 0)) (hy : NN h y.2 w.natAbs) (hys : w ≠ 0 → y.1 = decide (w < 0)) (hsz : nl z.natAbs + nl w.natAbs ≤ 10000)
    (K : ∀ r h', NN h' r.2 (z + w).natAbs → (z + w ≠ 0 → r.1 = decide (z + w < 0)) → (∀ b, r.2.blk = some b → h.size ≤ b) → Ext h h' → Q r h') : iY x y h Q := by
  refine ae fun h1 e1 => eM fun f h2 hb2 hf2 e2 => ?_
  have e12 := e1.trans e2
  have hfs : h.size ≤ f.block := by have := e1.size; omega
  have x2 := hx.nf e12 hfs
  have y2 := hy.nf e12 hfs
  have s2 := e12.size
  have fin : ∀ {h3 : Heap}, Keep (some f.block) h2 h3 → Ext h h3 := fun k3 => ⟨Nat.le_trans s2 k3.size, fun b hb _ => (k3.same b (by omega) (by simp; omega)).trans (e12.same b hb (by simp))⟩
  -- the sum of numbers of one sign, and of two
  refine ⟨fun hs => ?_, fun hs => ?_⟩
  · simp only [beq_iff_eq] at hs
    refine addF hb2 x2 y2 (by omega) (by omega) fun r h3 hb3 k3 hr fr => ?_
    have key : (z + w).natAbs = z.natAbs + w.natAbs ∧ (z + w ≠ 0 → x.1 = decide (z + w < 0)) := by
      by_cases hz0 : z = 0
      · subst hz0
        refine ⟨by simp, fun hne => ?_⟩
        rw [hs, hys (by omega)]; congr 1; simp
      · have h1 := hxs hz0
        by_cases hw0 : w = 0
        · subst hw0
          refine ⟨by simp, fun hne => ?_⟩
          rw [h1]; congr 1; simp
        · have h2 := hys hw0
          have : decide (z < 0) = decide (w < 0) := by rw [← h1, ← h2, hs]
          rw [decide_eq_decide] at this
          refine ⟨by omega, fun _ => ?_⟩
          rw [h1, decide_eq_decide]; omega
    refine K _ h3 (by rw [key.1]; exact hr.1) key.2 (fun b hb => by have := fr b hb; omega) (fin k3)
  · simp only [beq_eq_false_iff_ne, ne_eq] at hs
    have key : z ≠ 0 → w ≠ 0 → (z < 0 ↔ ¬ w < 0) := by
      intro hz hw
      have h1 := hxs hz
      have h2 := hys hw
      by_cases h3 : z < 0 <;> by_cases h4 : w < 0 <;> simp_all
    refine jv x2.1.nv y2.1.nv ⟨fun hc => ?_, fun hc => ?_⟩
    · rw [ug] at hc
      simp only [decide_eq_true_eq] at hc
      refine subF hb2 x2 y2 (by omega) (by omega) hc fun r h3 hb3 k3 hr fr => ?_
      have k2 : (z + w).natAbs = z.natAbs - w.natAbs ∧ (z + w ≠ 0 → x.1 = decide (z + w < 0)) := by
        by_cases hw0 : w = 0
        · subst hw0
          refine ⟨by simp, fun hne => ?_⟩
          rw [hxs (by omega)]; congr 1; simp
        · have hz0 : z ≠ 0 := by omega
          have := key hz0 hw0
          refine ⟨by omega, fun hne => ?_⟩
          rw [hxs hz0, decide_eq_decide]; omega
      refine K _ h3 (by rw [k2.1]; exact hr.1) k2.2 (fun b hb => by have := fr b hb; omega) (fin k3)
    · rw [ug] at hc
      simp only [decide_eq_false_iff_not] at hc
      refine subF hb2 y2 x2 (by omega) (by omega) (by omega) fun r h3 hb3 k3 hr fr => ?_
      have k2 : (z + w).natAbs = w.natAbs - z.natAbs ∧ (z + w ≠ 0 → y.1 = decide (z + w < 0)) := by
        have hw0 : w ≠ 0 := by omega
        by_cases hz0 : z = 0
        · subst hz0
          refine ⟨by simp, fun hne => ?_⟩
          rw [hys hw0]; congr 1; simp
        · have := key hz0 hw0
          refine ⟨by omega, fun hne => ?_⟩
          rw [hys hw0, decide_eq_decide]; omega
      refine K _ h3 (by rw [k2.1]; exact hr.1) k2.2 (fun b hb => by have := fr b hb; omega) (fin k3)
end Go.Sh

namespace Go.Sh
open Go Go.Lift
theorem aG (q : Rat) : nl q.num.natAbs ≤ szQ q := Nat.le_max_left _ _
theorem gS (q : Rat) : nl (dn q) ≤ szQ q := Nat.le_max_right _ _
theorem aP (q : Rat) : nl q.den ≤ szQ q + 1 := by
  have := zQ q; have := gS q; omega
theorem aat (z : Int) {m : Nat} (hm : m ≠ 0) : szQ (mkRat z m) ≤ max (nl z.natAbs) (nl m) := by
  unfold szQ
  have h1 : nl (mkRat z m).num.natAbs ≤ nl z.natAbs := by rw [sr z hm]; exact dI (Nat.div_le_self _ _)
  have h2 : nl (dn (mkRat z m)) ≤ nl m := by
    unfold dn
    split
    · rw [eV]; omega
    · rw [rR z hm]; exact dI (Nat.div_le_self _ _)
  omega
theorem kS (z w : Int) : nl (z * w).natAbs ≤ nl z.natAbs + nl w.natAbs := by rw [Int.natAbs_mul]; exact d9 _ _
theorem aco (z w : Int) : nl (z + w).natAbs ≤ max (nl z.natAbs) (nl w.natAbs) + 1 :=
  Nat.le_trans (dI (Int.natAbs_add_le z w)) (ab0 _ _)
theorem wT (p q : Rat) : mkRat (p.num * q.den + q.num * p.den) (p.den * q.den) = p + q := by
  rw [Rat.add_def, Rat.normalize_eq_mkRat]
theorem wS (p q : Rat) : mkRat (p.num * q.num) (p.den * q.den) = p * q := by
  rw [Rat.mul_def, Rat.normalize_eq_mkRat]
theorem wR (p q : Rat) : szQ (p + q) ≤ szQ p + szQ q + 2 := by
  rw [← wT]
  have hd : p.den * q.den ≠ 0 := Nat.mul_ne_zero p.den_nz q.den_nz
  have h0 := aat (p.num * q.den + q.num * p.den) hd
  have h1 := aco (p.num * q.den) (q.num * p.den)
  have h2 := kS p.num q.den
  have h3 := kS q.num p.den
  have h4 := d9 p.den q.den
  have := aG p; have := aG q; have := aP p; have := aP q
  simp only [Int.natAbs_natCast] at h2 h3
  omega
theorem pd (p q : Rat) : szQ (p * q) ≤ szQ p + szQ q + 2 := by
  rw [← wS]
  have hd : p.den * q.den ≠ 0 := Nat.mul_ne_zero p.den_nz q.den_nz
  have h0 := aat (p.num * q.num) hd
  have h2 := kS p.num q.num
  have h4 := d9 p.den q.den
  have := aG p; have := aG q; have := aP p; have := aP q
  omega
theorem pR {h : Heap} {x y : Bool × Sl × Sl} {p q : Rat} {Q : ((Bool × Sl) × (Bool × Sl)) → Heap → Prop} (hx : RQ h x p) (hy : RQ h y q) (hsz : szQ p + szQ q ≤ 6000) (h0 : 0 < h.size)
    (K : ∀ r h', NN h' r.1.2 (p.num * q.den).natAbs → (p.num * q.den ≠ 0 → r.1.1 = decide (p.num * q.den < 0)) → NN h' r.2.2 (q.num * p.den).natAbs → (q.num * p.den ≠ 0 → r.2.1 = decide (q.num * p.den < 0)) → Ext h h' → Q r h') : fv x y h Q := by
  have := aG p; have := aG q; have := aP p; have := aP q
  -- a block that nothing of this lies in is not needed: the sizes tell
  have nf : ∀ {h1 : Heap} {s : Sl} {n : Nat}, NN h1 s n → NF h1.size h1 s n := fun hs => hs.nf (Keep.refl _ _) (Nat.le_refl _)
  have den : ∀ {h1 : Heap} {x : Bool × Sl × Sl} {q : Rat} {Q : Sl → Heap → Prop}, RQ h1 x q → (∀ r h', NN h' r q.den → Ext h1 h' → Q r h') → bM x h1 Q := by
    intro h1 x q Q hx K
    refine ae fun h2 e2 => ⟨fun hz => ?_, fun hz => ?_⟩
    · simp only [beq_iff_eq] at hz
      have h0 : dn q = 0 := hx.den.len_zero.1 (by omega)
      have : q.den = 1 := by
        unfold dn at h0
        split at h0
        · assumption
        · exact absurd h0 q.den_nz
      exact rF fun r h3 hr e3 _ => K r h3 (by rw [this]; exact hr) (e2.trans e3)
    · have hz' : dn q ≠ 0 := fun h0 => by
        have := hx.den.len_zero.2 h0
        simp [this] at hz
      have : dn q = q.den := by
        unfold dn at hz' ⊢
        split
        · rename_i h1; rw [if_pos h1] at hz'; exact absurd rfl hz'
        · rfl
      rw [← this] at K
      exact K _ h2 (hx.den.ext e2) e2
  refine ae fun h1 e1 => ?_
  refine den (hy.ext e1) fun d1 h2 hd1 e2 => ?_
  refine s9 ((hx.ext e1).ext e2).num (fun _ => hx.neg) hd1 q.den_nz (by omega) fun r1 h3 hr1 hs1 _ e3 => ?_
  have e13 := e1.trans (e2.trans e3)
  refine den (hx.ext e13) fun d2 h4 hd2 e4 => ?_
  refine s9 ((hy.ext e13).ext e4).num (fun _ => hy.neg) hd2 p.den_nz (by omega) fun r2 h5 hr2 hs2 _ e5 => ?_
  exact K _ h5 ((hr1.ext e4).ext e5) hs1 hr2 hs2 (e13.trans (e4.trans e5))
section
variable {a : Addr} {lim : Nat} {ov : Bool} {h : Heap} {x y : Bool × Sl × Sl} {p q : Rat} {Q : (Bool × Sl × Sl) → Heap → Prop}
theorem oq {h' : Heap} {neg : Bool} {num d : Sl} {z : Int} {m : Nat} (ht : TB a.block h) (hb : Bench h a lim ov) (e : Ext h h') (hn : NN h' num z.natAbs) (hd : NN h' d m) (hm : m ≠ 0) (hz : z ≠ 0 → neg = decide (z < 0)) (hsz : nl z.natAbs + nl m ≤ 10000)
    (K : ∀ r h', Bench h' a lim (ov || decide (lim < szQ (mkRat z m))) → Keep (some a.block) h h' → RF a.block h' r (val' (ov || decide (lim < szQ (mkRat z m))) (mkRat z m)) → Fr h r → Q r h') :
    du neg num d h' (fun v h1 => eN (some a) (v.1, v.2.1, v.2.2) h1 fun v h2 => Q (v.1, v.2.1, v.2.2) h2) := by
  have hs := aat z hm
  have hba := hb.lt
  have se := e.size
  refine zw (R.ext ht.1 e) hn hd hm hz hsz fun r h1 hr fr e1 => ?_
  refine zu (hb.ext (e.trans e1)) (hr.rff (h0 := h) (fr.mono se) hba) (by omega) fun r2 h2 hb2 k2 hr2 f2 => ?_
  exact K r2 h2 hb2 ((Keep.of_ext (e.trans e1)).trans k2) hr2 (f2 h (fr.mono se))
theorem iU (ht : TB a.block h) (hb : Bench h a lim ov) (hx : RQ h x p) (hy : RQ h y q) (hsz : szQ p + szQ q ≤ 3000)
    (K : ∀ r h', Bench h' a lim (ov || decide (lim < szQ (p + q))) → Keep (some a.block) h h' → RF a.block h' r (val' (ov || decide (lim < szQ (p + q))) (p + q)) → Fr h r → Q r h') : cV (some a) x y h Q := by
  have hba := hb.lt
  have n1 := aG p; have n2 := aG q; have n3 := aP p; have n4 := aP q
  have hd : p.den * q.den ≠ 0 := Nat.mul_ne_zero p.den_nz q.den_nz
  have m1 := kS p.num q.den
  have m2 := kS q.num p.den
  have m3 := d9 p.den q.den
  have m4 := aco (p.num * q.den) (q.num * p.den)
  simp only [Int.natAbs_natCast] at m1 m2
  refine ae fun h1 e1 => ?_
  refine pR (hx.ext e1) (hy.ext e1) (by omega) (by have := e1.size; omega) fun r h2 hr1 hs1 hr2 hs2 e2 => ?_
  refine xt hr1 hs1 hr2 hs2 (by omega) fun s h3 hs3 hn3 _ e3 => ?_
  have e03 := e1.trans (e2.trans e3)
  refine ae fun h4 e4 => eM fun f h5 hb5 hf5 e5 => ?_
  have e05 := e03.trans (e4.trans e5)
  have hfs : h.size ≤ f.block := by have := e03.size; have := e4.size; omega
  have bl5 := hb5.lt
  refine gR (hx.rf e05 hfs).den bl5 fun d1 h6 hd1 e6 => gR ((hy.rf e05 hfs).den.ext e6) (by have := e6.size; omega) fun d2 h7 hd2 e7 => ?_
  have hb7 := (hb5.ext e6).ext e7
  refine mulF hb7 (hd1.ext e7) hd2 (by omega) (by omega) fun d3 h8 hb8 k8 hd3 _ => ?_
  have e38 : Ext h3 h8 := (e4.trans (e5.trans (e6.trans e7))).fresh (by have := e4.size; omega) k8
  refine oq (z := p.num * q.den + q.num * p.den) (m := p.den * q.den) ht hb (e03.trans e38) (hs3.ext e38) hd3.1 hd hn3 (by omega) fun r9 h9 hb9 k9 hr9 fr9 => ?_
  rw [wT] at hb9 hr9
  exact K r9 h9 hb9 k9 hr9 fr9
theorem zC (ht : TB a.block h) (hb : Bench h a lim ov) (hx : RQ h x p) (hy : RQ h y q) (hsz : szQ p + szQ q ≤ 3000)
    (K : ∀ r h', Bench h' a lim (ov || decide (lim < szQ (p - q))) → Keep (some a.block) h h' → RF a.block h' r (val' (ov || decide (lim < szQ (p - q))) (p - q)) → Fr h r → Q r h') : gg (some a) x y h Q := by
  refine ae fun h1 e1 => nK (hy.ext e1) fun v h2 hv _ e2 => ?_
  have e := e1.trans e2
  refine iU (ht.ext e) (hb.ext e) (hx.ext e) hv (by rw [aaK]; exact hsz) fun r h3 hb3 k3 hr fr => ?_
  rw [← Rat.sub_eq_add_neg] at hb3 hr
  exact K r h3 hb3 ((Keep.of_ext e).trans k3) hr (fr.mono e.size)
theorem uW {z w : Int} {b c : Bool} (hz : b = decide (z < 0)) (hw : c = decide (w < 0)) (hne : z * w ≠ 0) : (!(b == c)) = decide (z * w < 0) := by
  subst hz hw
  have hz : z ≠ 0 := by rintro rfl; simp at hne
  have hw : w ≠ 0 := by rintro rfl; simp at hne
  by_cases h1 : z < 0 <;> by_cases h2 : w < 0
  · have := Int.mul_pos_of_neg_of_neg h1 h2
    simp [h1, h2]; omega
  · have := Int.mul_neg_of_neg_of_pos h1 (show 0 < w by omega)
    simp [h1, h2]; omega
  · have := Int.mul_neg_of_pos_of_neg (show 0 < z by omega) h2
    simp [h1, h2]; omega
  · have := Int.mul_pos (show 0 < z by omega) (show 0 < w by omega)
    simp [h1, h2]; omega
theorem sZ (ht : TB a.block h) (hb : Bench h a lim ov) (hx : RQ h x p) (hy : RQ h y q) (hsz : szQ p + szQ q ≤ 3000)
    (K : ∀ r h', Bench h' a lim (ov || decide (lim < szQ (p * q))) → Keep (some a.block) h h' → RF a.block h' r (val' (ov || decide (lim < szQ (p * q))) (p * q)) → Fr h r → Q r h') : eK (some a) x y h Q := by
  have n1 := aG p; have n2 := aG q; have n3 := aP p; have n4 := aP q
  have hd : p.den * q.den ≠ 0 := Nat.mul_ne_zero p.den_nz q.den_nz
  have m1 := kS p.num q.num
  have m3 := d9 p.den q.den
  refine ae fun h1 e1 => eM fun f h2 hb2 hf2 e2 => ?_
  have e02 := e1.trans e2
  have hfs : h.size ≤ f.block := by have := e1.size; omega
  have X := hx.rf e02 hfs
  have Y := hy.rf e02 hfs
  have bl := hb2.lt
  refine mulF hb2 X.num Y.num (by omega) (by omega) fun r1 h3 hb3 k3 hr1 _ => ?_
  have s3 := k3.size
  refine gR (X.keep k3).den (by omega) fun d1 h4 hd1 e4 => gR ((Y.keep k3).ext e4).den (by have := e4.size; omega) fun d2 h5 hd2 e5 => ?_
  have e45 := e4.trans e5
  refine mulF (hb3.ext e45) (hd1.ext e5) hd2 (by omega) (by omega) fun d3 h6 hb6 k6 hd3 _ => ?_
  have e06 : Ext h h6 := ((e02.fresh hfs k3).trans e45).fresh hfs k6
  refine oq (z := p.num * q.num) (m := p.den * q.den) ht hb e06 ?_ hd3.1 hd (fun hne => uW hx.neg hy.neg hne) (by omega) fun r9 h9 hb9 k9 hr9 fr9 => ?_
  · rw [Int.natAbs_mul]; exact ((hr1.ext e45).keep k6).1
  · rw [wS] at hb9 hr9
    exact K r9 h9 hb9 k9 hr9 fr9
theorem acY {p q : Rat} (hq : q.num ≠ 0) : mkRat (p.num * q.den * q.num.sign) (p.den * q.num.natAbs) = p / q := by
  have hd : p.den * q.num.natAbs ≠ 0 := Nat.mul_ne_zero p.den_nz (by omega)
  have hq0 : q ≠ 0 := fun h => hq (by rw [h]; rfl)
  have hp : Rat.divInt p.num p.den = p := by rw [Rat.divInt_ofNat, Rat.mkRat_self]
  have h1 : p / q = Rat.divInt (p.num * q.den) (p.den * q.num) := by
    rw [Rat.div_def, Rat.inv_def, ← Rat.divInt_mul_divInt, hp]
  rw [h1, ← Rat.divInt_ofNat, Rat.divInt_eq_divInt_iff]
  · have : (q.num.natAbs : Int) = q.num.sign * q.num := (Int.sign_mul_self q.num).symm
    push_cast
    rw [this]
    grind
  · exact_mod_cast hd
  · exact Int.mul_ne_zero (by have := p.den_nz; omega) hq
theorem acI {p q : Rat} (hz : q.num ≠ 0) (hne : p.num * q.den * q.num.sign ≠ 0) : (!(decide (p.num < 0) == decide (q.num < 0))) = decide (p.num * q.den * q.num.sign < 0) := by
  have hp : p.num ≠ 0 := by intro h; rw [h] at hne; simp at hne
  have hdp : (0 : Int) < q.den := by have := q.den_nz; omega
  have key : ∀ s : Int, p.num * q.den * s = p.num * s * q.den := fun s => by rw [Int.mul_assoc, Int.mul_assoc, Int.mul_comm (q.den : Int) s]
  rw [key]
  have h2 : (p.num * q.num.sign * q.den < 0 ↔ p.num * q.num.sign < 0) := by
    constructor
    · intro h
      rcases Int.lt_or_le (p.num * q.num.sign) 0 with h1 | h1
      · exact h1
      · have := Int.mul_nonneg h1 (Int.le_of_lt hdp); omega
    · intro h; exact Int.mul_neg_of_neg_of_pos h hdp
  rw [decide_eq_decide.2 h2]
  refine uW rfl ?_ ?_
  · rw [decide_eq_decide]
    rcases Int.lt_trichotomy q.num 0 with h | h | h
    · have := Int.sign_eq_neg_one_of_neg h; omega
    · exact absurd h hz
    · have := Int.sign_eq_one_of_pos h; omega
  · intro h; rw [key, h] at hne; simp at hne
theorem sA (ht : TB a.block h) (hb : Bench h a lim ov) (hx : RQ h x p) (hy : RQ h y q) (hsz : szQ p + szQ q ≤ 3000)
    (K0 : q = 0 → ∀ h', Ext h h' → Q (false, Sl.nil, Sl.nil) h')
    (K : q ≠ 0 → ∀ r h', Bench h' a lim (ov || decide (lim < szQ (p / q))) → Keep (some a.block) h h' → RF a.block h' r (val' (ov || decide (lim < szQ (p / q))) (p / q)) → Fr h r → Q r h') : i6 (some a) x y h Q := by
  have n1 := aG p; have n2 := aG q; have n3 := aP p; have n4 := aP q
  refine ae fun h0 e0 => cY (hy.ext e0) fun h1 e01 => ⟨fun hz => ?_, fun hz => ?_⟩
  · simp only [beq_iff_eq, Int.sign_eq_zero_iff_zero] at hz
    exact K0 (Rat.num_eq_zero.1 hz) h1 (e0.trans e01)
  · simp only [beq_eq_false_iff_ne, ne_eq, Int.sign_eq_zero_iff_zero] at hz
    have hq0 : q ≠ 0 := fun h => hz (by rw [h]; rfl)
    have hd : p.den * q.num.natAbs ≠ 0 := Nat.mul_ne_zero p.den_nz (by omega)
    have m1 := d9 p.num.natAbs q.den
    have m3 := d9 p.den q.num.natAbs
    have e1 := e0.trans e01
    refine eM fun f h2 hb2 hf2 e2 => ?_
    have e02 := e1.trans e2
    have hfs : h.size ≤ f.block := by have := e1.size; omega
    have X := hx.rf e02 hfs
    have Y := hy.rf e02 hfs
    have bl := hb2.lt
    refine gR Y.den (by omega) fun d1 h3 hd1 e3 => ?_
    refine mulF (hb2.ext e3) (X.ext e3).num hd1 (by omega) (by omega) fun r1 h4 hb4 k4 hr1 _ => ?_
    have s4 := k4.size
    have s3 := e3.size
    refine gR ((X.ext e3).keep k4).den (by omega) fun d2 h5 hd2 e5 => ?_
    refine mulF (hb4.ext e5) hd2 (((Y.ext e3).keep k4).ext e5).num (by omega) (by omega) fun d3 h6 hb6 k6 hd3 _ => ?_
    have e06 : Ext h h6 := (((e02.trans e3).fresh hfs k4).trans e5).fresh hfs k6
    have habs : (p.num * q.den * q.num.sign).natAbs = p.num.natAbs * q.den := by
      rw [Int.natAbs_mul, Int.natAbs_mul, Int.natAbs_natCast, Int.natAbs_sign_of_ne_zero hz, Nat.mul_one]
    refine oq (z := p.num * q.den * q.num.sign) (m := p.den * q.num.natAbs) ht hb e06 ?_ hd3.1 hd ?_ (by rw [habs]; omega) fun r9 h9 hb9 k9 hr9 fr9 => ?_
    · rw [habs]; exact ((hr1.ext e5).keep k6).1
    · intro hne
      rw [hx.neg, hy.neg]; exact acI hz hne
    · rw [acY hz] at hb9 hr9
      exact K hq0 r9 h9 hb9 k9 hr9 fr9
end
theorem zo {h : Heap} {x y : Bool × Sl × Sl} {p q : Rat} {Q : Int → Heap → Prop} (hx : RQ h x p) (hy : RQ h y q) (hsz : szQ p + szQ q ≤ 3000) (h0 : 0 < h.size)
    (K : ∀ h', Ext h h' → Q (p.num * q.den - q.num * p.den).sign h') : gf x y h Q := by
  have n1 := aG p; have n2 := aG q; have n3 := aP p; have n4 := aP q
  have m1 := kS p.num q.den
  have m2 := kS q.num p.den
  simp only [Int.natAbs_natCast] at m1 m2
  refine ae fun h1 e1 => ?_
  refine pR (hx.ext e1) (hy.ext e1) (by omega) (by have := e1.size; omega) fun r h2 hr1 hs1 hr2 hs2 e2 => ?_
  refine ae fun h3 e3 => ?_
  refine xt (w := -(q.num * p.den)) (hr1.ext e3) hs1 (by rw [Int.natAbs_neg]; exact hr2.ext e3) (fun hne => ?_) (by rw [Int.natAbs_neg]; omega) fun s h4 hs4 hn4 _ e4 => ?_
  · have := hs2 (by omega)
    simp only [this]
    rw [← decide_not, decide_eq_decide]; omega
  · refine ae fun h5 e5 => ?_
    have e := e1.trans (e2.trans (e3.trans (e4.trans e5)))
    rw [← Int.sub_eq_add_neg] at hs4 hn4
    generalize p.num * q.den - q.num * p.den = z at *
    refine ⟨fun hl => ?_, fun hl => ?_⟩
    · simp only [beq_iff_eq] at hl
      have : z.natAbs = 0 := hs4.len_zero.1 (by omega)
      have : z = 0 := by omega
      rw [this] at K; exact K h5 e
    · have hz : z ≠ 0 := fun h0 => by
        have := hs4.len_zero.2 (by omega)
        simp [this] at hl
      rw [hn4 hz]
      refine ⟨fun hn => ?_, fun hn => ?_⟩
      · simp only [decide_eq_true_eq] at hn
        rw [Int.sign_eq_neg_one_of_neg hn] at K; exact K h5 e
      · simp only [decide_eq_false_iff_not] at hn
        rw [Int.sign_eq_one_of_pos (by omega)] at K; exact K h5 e
end Go.Sh

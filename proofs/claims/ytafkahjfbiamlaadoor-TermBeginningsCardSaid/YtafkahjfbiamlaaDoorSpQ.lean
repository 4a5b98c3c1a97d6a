/-
  Laws that the proof of this claim's statement leans on, each proved under the conditions that it states.
-/
import Derived.Test.YtafkahjfbiamlaaDoorSpT
set_option linter.unusedVariables false
set_option linter.unusedSimpArgs false
namespace Go.Sh
open Go Go.Lift

theorem mem_ext {h : Heap} {k : Heap → Prop} (K : ∀ h', Ext h h' → k h') : mem h k := fun h' e => K h' ⟨e.size, fun b hb _ => e.same b hb⟩

/-! ### Numbers beside a bench -/
/-- A number whose limbs don't lie where the bench lies. -/
def NF (a : Nat) (h : Heap) (s : Sl) (n : Nat) : Prop := NN h s n ∧ (s.blk = some a → n = 0)
theorem NF.keep {a : Nat} {h h' : Heap} {s : Sl} {n : Nat} (hs : NF a h s n) (k : Keep (some a) h h') : NF a h' s n := ⟨hs.1.keep' k hs.2, hs.2⟩
theorem NF.ext {a : Nat} {h h' : Heap} {s : Sl} {n : Nat} (hs : NF a h s n) (k : Ext h h') : NF a h' s n := ⟨hs.1.ext k, hs.2⟩
theorem NN.lt_blk {h : Heap} {s : Sl} {n b : Nat} (hs : NN h s n) (hb : s.blk = some b) (hn : n ≠ 0) : b < h.size := by
  obtain ⟨xs, h1, h2, h3, h4, _⟩ := hs
  cases ha : s.a with
  | none => simp [Sl.blk, ha] at hb
  | some a =>
    simp [Sl.blk, ha] at hb
    subst hb
    refine h1.lt ha fun hx => hn ?_
    subst hx; exact h4.symm
theorem NN.nf {h h' : Heap} {s : Sl} {n a : Nat} (hs : NN h s n) (e : Ext h h') (ha : h.size ≤ a) : NF a h' s n :=
  ⟨hs.ext e, fun hb => Classical.byContradiction fun hn => by have := hs.lt_blk hb hn; omega⟩
theorem NF.of {a : Nat} {h : Heap} {s : Sl} {n : Nat} (hs : NN h s n) (hb : s.blk ≠ some a) : NF a h s n := ⟨hs, fun h => absurd h hb⟩
theorem NF.nil {a : Nat} {h : Heap} : NF a h Sl.nil 0 := ⟨NN.nil, fun _ => rfl⟩
theorem NF.fresh {a : Nat} {h0 h : Heap} {s : Sl} {n : Nat} (hs : NN h s n) (hf : ∀ b, s.blk = some b → h0.size ≤ b) (ha : a < h0.size) : NF a h s n := ⟨hs, fun hb => by have := hf _ hb; omega⟩

theorem free_spec {h : Heap} {Q : Option Addr → Heap → Prop} (K : ∀ a h', Bench h' a 16777216 false → h.size ≤ a.block → Ext h h' → Q (some a) h') : ratio_free h Q :=
  New_spec fun a h' hb hab he => K a h' hb (Nat.le_of_eq hab.symm) he

theorem Tab.keep {h h' : Heap} {a : Nat} (ht : Tab h) (k : Keep (some a) h h') (hne : a ≠ g_math_bits_deBruijn32tab) : Tab h' :=
  R.keep ht k (fun b hb => by cases hb; simpa using Ne.symm hne)
theorem Tab.lt {h : Heap} (ht : Tab h) : g_math_bits_deBruijn32tab < h.size := R.lt ht rfl (by decide)
/-- The table, beside a bench. -/
def TB (a : Nat) (h : Heap) : Prop := Tab h ∧ a ≠ g_math_bits_deBruijn32tab
theorem TB.keep {h h' : Heap} {a : Nat} (ht : TB a h) (k : Keep (some a) h h') : TB a h' := ⟨ht.1.keep k ht.2, ht.2⟩
theorem TB.ext {h h' : Heap} {a : Nat} (ht : TB a h) (k : Ext h h') : TB a h' := ⟨R.ext ht.1 k, ht.2⟩
theorem Tab.tb {h h' : Heap} {a : Nat} (ht : Tab h) (e : Ext h h') (ha : h.size ≤ a) : TB a h' := ⟨R.ext ht e, by have := ht.lt; omega⟩

/-! ### What fits on the way -/
section
variable {a : Addr} {lim : Nat} {x y : Sl} {m n : Nat} {h : Heap}
theorem gcdF {Q : Sl → Heap → Prop} (ht : TB a.block h) (hb : Bench h a lim false) (hx : NF a.block h x m) (hy : NF a.block h y n) (h1 : nl m + nl n ≤ lim) (h2 : nl m + nl n ≤ 30000)
    (K : ∀ r h', Bench h' a lim false → Keep (some a.block) h h' → NF a.block h' r (Nat.gcd m n) → (∀ b, r.blk = some b → h.size ≤ b) → Q r h') : nat_Bench_Gcd (some a) x y h Q := by
  have l1 := hx.1.nl
  have l2 := hy.1.nl
  have l3 : nl (Nat.gcd m n) ≤ nl m + nl n := by
    by_cases hm : m = 0
    · subst hm; simp
    · have : nl (Nat.gcd m n) ≤ nl m := nl_mono (Nat.le_of_dvd (Nat.pos_of_ne_zero hm) (Nat.gcd_dvd_left m n))
      omega
  refine Gcd_spec ht.1 hb hx.1.nv hy.1.nv (by omega) (by omega) hx.2 hy.2 fun r h' hb' hk hn _ hs => ?_
  rw [nofit (by omega)] at hb' hn
  exact K r h' hb' hk (NF.of (hn rfl) (fresh_ne hb hs)) hs
end

/-! ### Fractions -/
/-- The denominator as it is written. -/
def dn (q : Rat) : Nat := if q.den = 1 then 0 else q.den
/-- A fraction in its one form. -/
structure RQ (h : Heap) (x : Bool × Sl × Sl) (q : Rat) : Prop where
  num : NN h x.2.1 q.num.natAbs
  den : NN h x.2.2 (dn q)
  neg : x.1 = decide (q.num < 0)
theorem RQ.ext {h h' : Heap} {x : Bool × Sl × Sl} {q : Rat} (hx : RQ h x q) (e : Ext h h') : RQ h' x q := ⟨hx.num.ext e, hx.den.ext e, hx.neg⟩
/-- It doesn't lie where the bench lies. -/
structure RF (a : Nat) (h : Heap) (x : Bool × Sl × Sl) (q : Rat) : Prop where
  num : NF a h x.2.1 q.num.natAbs
  den : NF a h x.2.2 (dn q)
  neg : x.1 = decide (q.num < 0)
theorem RF.rq {a : Nat} {h : Heap} {x : Bool × Sl × Sl} {q : Rat} (hx : RF a h x q) : RQ h x q := ⟨hx.num.1, hx.den.1, hx.neg⟩
theorem RF.keep {a : Nat} {h h' : Heap} {x : Bool × Sl × Sl} {q : Rat} (hx : RF a h x q) (k : Keep (some a) h h') : RF a h' x q := ⟨hx.num.keep k, hx.den.keep k, hx.neg⟩
theorem RF.ext {a : Nat} {h h' : Heap} {x : Bool × Sl × Sl} {q : Rat} (hx : RF a h x q) (k : Ext h h') : RF a h' x q := ⟨hx.num.ext k, hx.den.ext k, hx.neg⟩
theorem RQ.zero {h : Heap} : RQ h (false, Sl.nil, Sl.nil) 0 := ⟨NN.nil, by rw [show dn 0 = 0 from rfl]; exact NN.nil, rfl⟩
theorem RF.zero {a : Nat} {h : Heap} : RF a h (false, Sl.nil, Sl.nil) 0 := ⟨NF.nil, by rw [show dn 0 = 0 from rfl]; exact NF.nil, rfl⟩
/-- All of it is new. -/
def Fr (h : Heap) (x : Bool × Sl × Sl) : Prop := (∀ b, x.2.1.blk = some b → h.size ≤ b) ∧ (∀ b, x.2.2.blk = some b → h.size ≤ b)
theorem Fr.nil {h : Heap} {s : Bool} : Fr h (s, Sl.nil, Sl.nil) := ⟨fun b hb => (by cases hb), fun b hb => (by cases hb)⟩
theorem Fr.mono {h h' : Heap} {x : Bool × Sl × Sl} (hf : Fr h' x) (e : h.size ≤ h'.size) : Fr h x := ⟨fun b hb => Nat.le_trans e (hf.1 b hb), fun b hb => Nat.le_trans e (hf.2 b hb)⟩
theorem nl_one : nl 1 = 1 := by rw [nl_pos (by decide)]; simp [nl_zero]
theorem one_spec {h : Heap} {Q : Sl → Heap → Prop} (K : ∀ r h', NN h' r 1 → Ext h h' → (∀ b, r.blk = some b → h.size ≤ b) → Q r h') : ratio_one h Q := by
  refine new1 (m := 1) rfl fun h' hr he hsz => K _ h' ⟨[1], hr, by intro z hz; simp at hz; omega, by simp [Nrm], by simp [val], by simp⟩ he (fun b hb => ?_)
  simp [Sl.blk] at hb; omega

theorem Equal_spec {a b : Sl} {xs ys : List Nat} {h : Heap} {Q : Bool → Heap → Prop} (ha : RI .u32 h a xs) (hb : RI .u32 h b ys) (hl : xs.length ≤ 1048576) (K : Q (xs == ys) h) : slices_Equal_api_Nat_uint32 a b h Q := by
  have la := ha.len
  have lb := hb.len
  refine ⟨fun hne => ?_, fun heq => ?_⟩
  · have : (xs == ys) = false := by
      simp only [bne_iff_ne, ne_eq] at hne
      simp only [beq_eq_false_iff_ne, ne_eq]
      rintro rfl; omega
    rw [this] at K; exact K
  · have hlen : xs.length = ys.length := by
      simp only [bne_eq_false_iff_eq] at heq; omega
    refine loop.inv (fun s h' => h' = h ∧ ∃ i : Nat, s = (i : Int) ∧ i ≤ xs.length ∧ xs.take i = ys.take i) (fun s _ => xs.length - s.toNat) ⟨rfl, 0, rfl, by omega, rfl⟩ ?_
    rintro s h' ⟨rfl, i, rfl, hi, hpre⟩
    refine ⟨fun hlt => ?_, fun hge => ?_⟩
    · simp only [decide_eq_true_eq] at hlt
      refine ha.ld (j := i) rfl (by omega) (hb.ld (j := i) rfl (by omega) ⟨fun hn => ?_, fun he => ?_⟩)
      · have : (xs == ys) = false := by
          simp only [bne_iff_ne, ne_eq] at hn
          simp only [beq_eq_false_iff_ne, ne_eq]
          rintro rfl; exact hn rfl
        rw [this] at K; exact K
      · rw [w64 (by omega) (by omega)]
        simp only [bne_eq_false_iff_eq] at he
        refine ⟨⟨rfl, i + 1, rfl, by omega, ?_⟩, by omega⟩
        rw [List.take_succ_eq_append_getElem (by omega), List.take_succ_eq_append_getElem (by omega), hpre]
        congr 2
        omega
    · simp only [decide_eq_false_iff_not] at hge
      have : xs = ys := by
        rw [List.take_of_length_le (by omega), List.take_of_length_le (by omega)] at hpre; exact hpre
      have h2 : (xs == ys) = true := by rw [this]; simp
      rw [h2] at K; exact K

theorem isOne_spec {h : Heap} {x : Sl} {n : Nat} {Q : Bool → Heap → Prop} (hx : NN h x n) (K : ∀ h', Ext h h' → Q (decide (n = 1)) h') : ratio_isOne x h Q := by
  refine one_spec fun r h1 hr e1 _ => ?_
  obtain ⟨xs, x1, x2, x3, x4, x5⟩ := hx.ext e1
  obtain ⟨ys, y1, y2, y3, y4, y5⟩ := hr
  refine Equal_spec x1 y1 x5 ?_
  have : (xs == ys) = decide (n = 1) := by
    rw [Bool.eq_iff_iff]
    simp only [beq_iff_eq, decide_eq_true_eq]
    constructor
    · rintro rfl; rw [← x4, y4]
    · intro h1; exact val_inj (b := 4294967296) (by decide) x2 y2 x3 y3 (by rw [x4, y4, h1])
  rw [this]
  exact K h1 e1
end Go.Sh

namespace Go.Sh
open Go Go.Lift

theorem mk_num (z : Int) {m : Nat} (hm : m ≠ 0) : (mkRat z m).num.natAbs = z.natAbs / Nat.gcd z.natAbs m := by
  rw [Rat.num_mkRat, if_neg hm, Nat.gcd_comm, Int.natAbs_ediv_of_dvd]
  · simp
  · exact Int.ofNat_dvd_left.2 (Nat.gcd_dvd_left _ _)
theorem mk_den (z : Int) {m : Nat} (hm : m ≠ 0) : (mkRat z m).den = m / Nat.gcd z.natAbs m := by
  rw [Rat.den_mkRat, if_neg hm, Nat.gcd_comm]
theorem mk_neg (z : Int) {m : Nat} (hm : m ≠ 0) : (mkRat z m).num < 0 ↔ z < 0 := by
  rw [Rat.num_mkRat, if_neg hm]
  have hg : 0 < Nat.gcd m z.natAbs := Nat.gcd_pos_of_pos_left _ (Nat.pos_of_ne_zero hm)
  have hd : ((Nat.gcd m z.natAbs : Nat) : Int) ∣ z := Int.ofNat_dvd_left.2 (Nat.gcd_dvd_right _ _)
  obtain ⟨c, hc⟩ := hd
  generalize Nat.gcd m z.natAbs = g at *
  subst hc
  rw [Int.mul_ediv_cancel_left _ (by omega)]
  constructor
  · intro h; exact Int.mul_neg_of_pos_of_neg (by omega) h
  · intro h
    rcases Int.lt_or_le c 0 with h1 | h1
    · exact h1
    · have := Int.mul_nonneg (a := (g : Int)) (b := c) (by omega) h1; omega

/-! ### Integers on the way -/
structure WF (a : Nat) (h : Heap) (x : Bool × Sl) (z : Int) : Prop where
  mag : NF a h x.2 z.natAbs
  neg : z ≠ 0 → x.1 = decide (z < 0)
theorem WF.ext {a : Nat} {h h' : Heap} {x : Bool × Sl} {z : Int} (hx : WF a h x z) (e : Ext h h') : WF a h' x z := ⟨hx.mag.ext e, hx.neg⟩

end Go.Sh

namespace Go.Sh
open Go Go.Lift

section
variable {a : Addr} {lim : Nat} {ov : Bool} {h : Heap} {x y : Bool × Sl × Sl} {p q : Rat} {Q : (Bool × Sl × Sl) → Heap → Prop}

end

end Go.Sh

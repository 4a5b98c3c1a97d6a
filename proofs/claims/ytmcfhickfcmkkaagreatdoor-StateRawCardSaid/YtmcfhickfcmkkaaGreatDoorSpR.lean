/-
  Laws that the proof of this claim's statement leans on, each proved under the conditions that it states.
-/
import Derived.Test.YtmcfhickfcmkkaaGreatDoorSpQ
import Derived.Test.YtmcfhickfcmkkaaGreatDoorSpT
set_option linter.unusedVariables false
set_option linter.unusedSimpArgs false
namespace Go.Sh
open Go Go.Lift
structure RD (h : Heap) (x : Bool × Sl × Sl) (q : Rat) : Prop where
  num : DN h x.2.1 q.num.natAbs
  den : DN h x.2.2 q.den
  neg : x.1 = decide (q.num < 0)
structure RDr (h : Heap) (x : Bool × Sl × Sl) (z : Int) (m : Nat) : Prop where
  num : DN h x.2.1 z.natAbs
  den : DN h x.2.2 m
  pos : m ≠ 0
  neg : z ≠ 0 → x.1 = decide (z < 0)
def Dg (kd : IntKind) (B : Nat) (h : Heap) (s : Sl) (ds : List Nat) : Prop := (ds = [] ∧ s.len = 0 ∧ s.cap = 0) ∨ OwnI kd B h s ds
end Go.Sh

namespace Go.Sh
open Go Go.Lift
structure XR (h : Heap) (x : Bool × Sl × Sl) (xs ys : List Nat) : Prop where
  num : RI .u32 h x.2.1 xs
  lnum : Lim 4294967296 xs
  den : RI .u32 h x.2.2 ys
  lden : Lim 4294967296 ys
theorem XR.ext {h h' : Heap} {x : Bool × Sl × Sl} {xs ys : List Nat} (hx : XR h x xs ys) (e : Ext h h') : XR h' x xs ys := ⟨R.ext hx.num e, hx.lnum, R.ext hx.den e, hx.lden⟩
theorem rP {xs : List Nat} {k : Nat} (hl : Lim 4294967296 xs) (hk : xs.length ≤ k) : nl (val 4294967296 xs) ≤ k := by
  rw [tf]
  exact Nat.lt_of_lt_of_le (tA hl) (Nat.pow_le_pow_right (by decide) hk)
theorem RQ.xr {h : Heap} {x : Bool × Sl × Sl} {q : Rat} (hx : RQ h x q) : ∃ xs ys, XR h x xs ys ∧ val 4294967296 xs = q.num.natAbs ∧ val 4294967296 ys = dn q ∧ xs.length = nl q.num.natAbs ∧ ys.length = nl (dn q) := by
  have l1 := hx.num.nl
  have l2 := hx.den.nl
  obtain ⟨xs, x1, x2, x3, x4, x5⟩ := hx.num
  obtain ⟨ys, y1, y2, y3, y4, y5⟩ := hx.den
  exact ⟨xs, ys, ⟨x1, x2, y1, y2⟩, x4, y4, by rw [← x1.len]; exact l1, by rw [← y1.len]; exact l2⟩
theorem alY (q : Rat) : (if dn q = 0 then 1 else dn q) = q.den := by
  unfold dn
  by_cases h : q.den = 1
  · simp [h]
  · simp [h, q.den_nz]
section
variable {h : Heap} {x y : Bool × Sl × Sl} {p q : Rat} {Q : (Bool × Sl × Sl) → Heap → Prop}
end
def cmpR (p q : Rat) : Int := (p - q).num.sign
theorem alh (p q : Rat) : (p.num * q.den - q.num * p.den).sign = cmpR p q := by
  unfold cmpR
  have hd : p.den * q.den ≠ 0 := Nat.mul_ne_zero p.den_nz q.den_nz
  have h1 : p - q = mkRat (p.num * q.den - q.num * p.den) (p.den * q.den) := by
    rw [Rat.sub_eq_add_neg, ← aiy, Rat.neg_num, Rat.neg_den, Int.neg_mul, ← Int.sub_eq_add_neg]
  rw [h1]
  generalize p.num * q.den - q.num * p.den = z
  generalize p.den * q.den = m at *
  have hneg := ahI z hd
  have habs := agi z hd
  have hz : (mkRat z m).num = 0 ↔ z = 0 := by rw [Rat.num_eq_zero, Rat.mkRat_eq_zero hd]
  rcases Int.lt_trichotomy z 0 with h | h | h
  · rw [Int.sign_eq_neg_one_of_neg h, Int.sign_eq_neg_one_of_neg (hneg.2 h)]
  · subst h; simp
  · rw [Int.sign_eq_one_of_pos h, Int.sign_eq_one_of_pos]
    have : ¬ (mkRat z m).num < 0 := fun h' => by have := hneg.1 h'; omega
    have : (mkRat z m).num ≠ 0 := fun h' => by have := hz.1 h'; omega
    omega
end Go.Sh

namespace Go.Sh
open Go Go.Lift
def isQ (h : Heap) (x : Bool × Sl × Sl) : Prop := ∃ q, RQ h x q
theorem RI.uniq {kd : IntKind} {h : Heap} {s : Sl} {xs ys : List Nat} (hx : RI kd h s xs) (hy : RI kd h s ys) : xs = ys := by
  have := hx.cells.symm.trans hy.cells
  simp only [Option.some.injEq] at this
  have inj : ∀ (xs ys : List Nat), xs.map (fun n : Nat => Value.int kd (n : Int)) = ys.map (fun n : Nat => Value.int kd (n : Int)) → xs = ys := by
    intro xs
    induction xs with
    | nil => intro ys h; cases ys <;> simp_all
    | cons x xs ih =>
      intro ys h
      cases ys with
      | nil => simp at h
      | cons y ys =>
        simp only [List.map_cons, List.cons.injEq, Value.int.injEq, true_and] at h
        rw [ih ys h.2, show x = y from by omega]
  exact inj _ _ this
def Dn (ys : List Nat) : Nat := if val 4294967296 ys = 0 then 1 else val 4294967296 ys
theorem akw (ys : List Nat) : Dn ys ≠ 0 := by unfold Dn; split <;> simp_all
def Zn (b : Bool) (xs : List Nat) : Int := if b then -(val 4294967296 xs : Int) else (val 4294967296 xs : Int)
theorem aib (b : Bool) (xs : List Nat) : (Zn b xs).natAbs = val 4294967296 xs := by unfold Zn; split <;> omega
theorem al7 {b : Bool} {xs : List Nat} (h : Zn b xs ≠ 0) : b = decide (Zn b xs < 0) := by
  unfold Zn at *
  cases b
  · simp
  · simp at h ⊢; omega
theorem NN.of {h : Heap} {s : Sl} {xs : List Nat} {n : Nat} (hx : RI .u32 h s xs) (hl : Lim 4294967296 xs) (hn : Nrm xs) (hv : val 4294967296 xs = n) (hk : xs.length ≤ 2200000) : NN h s n := ⟨xs, hx, hl, hn, hv, hk⟩
theorem NN.list {h : Heap} {s : Sl} {xs : List Nat} {n : Nat} (hs : NN h s n) (hx : RI .u32 h s xs) : Nrm xs ∧ val 4294967296 xs = n := by
  obtain ⟨ys, y1, y2, y3, y4, _⟩ := hs
  have := RI.uniq hx y1
  subst this
  exact ⟨y3, y4⟩
section
variable {h : Heap} {x : Bool × Sl × Sl} {xs ys : List Nat}
theorem XR.rq (hX : XR h x xs ys) {q : Rat} (hq : RQ h x q) : Nrm xs ∧ Nrm ys ∧ q.num = Zn x.1 xs ∧ q.den = Dn ys ∧ val 4294967296 ys = dn q := by
  obtain ⟨n1, v1⟩ := hq.num.list hX.num
  obtain ⟨n2, v2⟩ := hq.den.list hX.den
  refine ⟨n1, n2, ?_, ?_, v2⟩
  · unfold Zn
    rw [hq.neg]
    by_cases hn : q.num < 0
    · rw [if_pos (by simpa using hn)]; omega
    · rw [if_neg (by simpa using hn)]; omega
  · unfold Dn; rw [v2]; exact (alY q).symm
theorem XR.qval (hX : XR h x xs ys) {q : Rat} (hq : RQ h x q) : q = mkRat (Zn x.1 xs) (Dn ys) := by
  obtain ⟨_, _, h1, h2, _⟩ := hX.rq hq
  rw [← h1, ← h2, Rat.mkRat_self]
theorem XR.isQ_iff (hX : XR h x xs ys) (lx : xs.length ≤ 2200000) (ly : ys.length ≤ 2200000) :
    isQ h x ↔ Nrm xs ∧ Nrm ys ∧ val 4294967296 ys ≠ 1 ∧ (if val 4294967296 xs = 0 then x.1 = false ∧ val 4294967296 ys = 0 else Nat.gcd (val 4294967296 xs) (Dn ys) = 1) := by
  constructor
  · rintro ⟨q, hq⟩
    obtain ⟨n1, n2, h1, h2, h3⟩ := hX.rq hq
    have hz := aib x.1 xs
    refine ⟨n1, n2, ?_, ?_⟩
    · rw [h3]; unfold dn; split
      · decide
      · rename_i h5; exact h5
    · split
      · rename_i h0
        have hq0 : q.num = 0 := by omega
        have : q = 0 := Rat.num_eq_zero.1 hq0
        subst this
        exact ⟨by rw [hq.neg]; rfl, by rw [h3]; rfl⟩
      · rw [← h2, ← hz, ← h1]; exact q.reduced
  · rintro ⟨n1, n2, h1, h2⟩
    refine ⟨mkRat (Zn x.1 xs) (Dn ys), ?_⟩
    have hz := aib x.1 xs
    have a1 := agi (Zn x.1 xs) (akw ys)
    have a2 := ah2 (Zn x.1 xs) (akw ys)
    have a3 := ahI (Zn x.1 xs) (akw ys)
    rw [hz] at a1 a2
    split at h2
    · rename_i h0
      have hzz : Zn x.1 xs = 0 := by omega
      rw [hzz, Rat.zero_mkRat]
      refine ⟨NN.of hX.num hX.lnum n1 h0 lx, NN.of hX.den hX.lden n2 (by rw [h2.2]; rfl) ly, by rw [h2.1]; rfl⟩
    · rename_i h0
      rw [h2, Nat.div_one] at a1 a2
      refine ⟨NN.of hX.num hX.lnum n1 a1.symm lx, NN.of hX.den hX.lden n2 ?_ ly, ?_⟩
      · unfold dn; rw [a2]; unfold Dn
        by_cases hy : val 4294967296 ys = 0
        · simp [hy]
        · simp [hy, h1]
      · have h5 := al7 (by omega : Zn x.1 xs ≠ 0)
        exact h5.trans (decide_eq_decide.2 a3.symm)
theorem al6 {Q : Bool → Heap → Prop} {s : Sl} {l : List Nat} (hs : RI .u32 h s l) (hl : Lim 4294967296 l) (hn : Nrm l) (hk : l.length ≤ 2200000) (K : ∀ h', Ext h h' → Q (decide (val 4294967296 l = 1)) h') : jv s h Q :=
  ul (NN.of hs hl hn rfl hk) K
theorem am2 {l : List Nat} : (l.getLast? != some 0) = true ↔ Nrm l := by unfold Nrm; simp
theorem af2 {l : List Nat} (hn : Nrm l) : l.length = 0 ↔ val 4294967296 l = 0 := by
  constructor
  · intro h; have := List.eq_nil_of_length_eq_zero h; subst this; rfl
  · intro h; rw [mW (by decide) hn h]; rfl
theorem nE {Q : Bool → Heap → Prop} (ht : Tab h) (hX : XR h x xs ys) (lx : xs.length ≤ 1048576) (ly : ys.length ≤ 1048576) (K : ∀ b h', (b = true ↔ isQ h x) → Ext h h' → Q b h') : bq x h Q := by
  have hiff := hX.isQ_iff (by omega) (by omega)
  have lnx := hX.num.len
  have lny := hX.den.len
  refine ak fun h1 e1 => ?_
  have X := hX.ext e1
  refine seq.cut (fun t h2 => (t = true ↔ ¬ (Nrm xs ∧ Nrm ys ∧ val 4294967296 ys ≠ 1)) ∧ Ext h1 h2) ?_ ?_
  · refine aaA X.num (by omega) ⟨fun hb => ?_, fun hb => ?_⟩
    · refine ⟨?_, Keep.refl _ _⟩
      have : ¬ Nrm xs := fun hn => by have := am2.2 hn; simp [this] at hb
      simp [this]
    · have n1 : Nrm xs := am2.1 (by simpa using hb)
      refine aaA X.den (by omega) ⟨fun hb => ?_, fun hb => ?_⟩
      · refine ⟨?_, Keep.refl _ _⟩
        have : ¬ Nrm ys := fun hn => by have := am2.2 hn; simp [this] at hb
        simp [this]
      · have n2 : Nrm ys := am2.1 (by simpa using hb)
        refine al6 X.den X.lden n2 (by omega) fun h2 e2 => ⟨?_, e2⟩
        simp [n1, n2]
  · rintro t h2 ⟨htt, e2⟩
    have e12 := e1.trans e2
    refine ⟨fun hb => ?_, fun hb => ?_⟩
    · refine K false h2 ?_ e12
      have := htt.1 hb
      rw [hiff]
      simp only [Bool.false_eq_true, false_iff]
      exact fun h => this ⟨h.1, h.2.1, h.2.2.1⟩
    · have : Nrm xs ∧ Nrm ys ∧ val 4294967296 ys ≠ 1 := Classical.byContradiction fun h => by rw [htt.2 h] at hb; cases hb
      obtain ⟨n1, n2, n3⟩ := this
      have v1 := af2 n1
      have v2 := af2 n2
      refine ⟨fun hl => ?_, fun hl => ?_⟩
      · simp only [beq_iff_eq] at hl
        have h0 : val 4294967296 xs = 0 := v1.1 (by omega)
        refine seq.cut (fun t h3 => (t = true ↔ x.1 = false ∧ val 4294967296 ys = 0) ∧ h3 = h2) ?_ ?_
        · refine ⟨fun hn => ?_, fun hn => ?_⟩
          · refine ⟨?_, rfl⟩
            have hx1 : x.1 = false := by simpa using hn
            simp only [beq_iff_eq, hx1, true_and]
            rw [← v2]; omega
          · refine ⟨?_, rfl⟩
            have hx1 : x.1 = true := by simpa using hn
            simp [hx1]
        · rintro t h3 ⟨h4, rfl⟩
          refine K t h3 ?_ e12
          rw [hiff, if_pos h0, h4]
          exact ⟨fun h => ⟨n1, n2, n3, h⟩, fun h => h.2.2.2⟩
      · have h0 : val 4294967296 xs ≠ 0 := fun h0 => by
          have := v1.2 h0
          rw [lnx, this] at hl; simp at hl
        refine my fun f h3 hb3 hf3 e3 => ?_
        have e13 := e12.trans e3
        have hfs : h.size ≤ f.block := by have := e12.size; omega
        have NX : NN h x.2.1 (val 4294967296 xs) := NN.of hX.num hX.lnum n1 rfl (by omega)
        have NY : NN h x.2.2 (val 4294967296 ys) := NN.of hX.den hX.lden n2 rfl (by omega)
        have bl := hb3.lt
        have nx := rP hX.lnum (k := 1048576) (by omega)
        have ny := rP hX.lden (k := 1048576) (by omega)
        have nd : nl (Dn ys) ≤ 1048577 := by unfold Dn; split; rw [aj3]; omega; omega
        have den : ∀ {Q2 : Sl → Heap → Prop}, (∀ r h', NF f.block h' r (Dn ys) → Ext h3 h' → Q2 r h') → gE (x.1, x.2.1, x.2.2) h3 Q2 := by
          intro Q2 K2
          have hD := NY.nf e13 hfs
          refine ak fun h4 e4 => ⟨fun hz => ?_, fun hz => ?_⟩
          · simp only [beq_iff_eq] at hz
            have : val 4294967296 ys = 0 := v2.1 (by omega)
            refine wj fun r h5 hr e5 hfr => K2 r h5 ?_ (e4.trans e5)
            unfold Dn; rw [if_pos this]
            exact NF.fresh hr hfr (by have := e4.size; omega)
          · have : val 4294967296 ys ≠ 0 := fun h0 => by
              have := v2.2 h0
              rw [lny, this] at hz; simp at hz
            refine K2 _ h4 ?_ e4
            unfold Dn; rw [if_neg this]
            exact hD.ext e4
        refine den fun r h4 hr e4 => ?_
        refine gcdF ((ht.tb e13 hfs).ext e4) (hb3.ext e4) ((NX.nf e13 hfs).ext e4) hr (by omega) (by omega) fun g h5 hb5 k5 hg _ => ?_
        have e15 := (e13.trans e4).fresh hfs k5
        refine ul hg.1 fun h6 e6 => ?_
        refine K _ h6 ?_ (e15.trans e6)
        rw [hiff, if_neg h0, decide_eq_true_eq]
        exact ⟨fun h => ⟨n1, n2, n3, h⟩, fun h => h.2.2.2⟩
end
end Go.Sh

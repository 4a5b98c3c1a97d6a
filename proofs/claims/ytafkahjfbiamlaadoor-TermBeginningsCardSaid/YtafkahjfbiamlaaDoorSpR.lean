/-
  Laws that the proof of this claim's statement leans on, each proved under the conditions that it states.
-/
import Derived.Test.YtafkahjfbiamlaaDoorSpQ
import Derived.Test.YtafkahjfbiamlaaDoorSpT
set_option linter.unusedVariables false
set_option linter.unusedSimpArgs false
namespace Go.Sh
open Go Go.Lift

/-- A fraction in digits, in lowest terms. -/
structure RD (h : Heap) (x : Bool × Sl × Sl) (q : Rat) : Prop where
  num : DN h x.2.1 q.num.natAbs
  den : DN h x.2.2 q.den
  neg : x.1 = decide (q.num < 0)
/-- Not in lowest terms, maybe. -/
structure RDr (h : Heap) (x : Bool × Sl × Sl) (z : Int) (m : Nat) : Prop where
  num : DN h x.2.1 z.natAbs
  den : DN h x.2.2 m
  pos : m ≠ 0
  neg : z ≠ 0 → x.1 = decide (z < 0)
theorem RD.ext {h h' : Heap} {x : Bool × Sl × Sl} {q : Rat} (hx : RD h x q) (e : Ext h h') : RD h' x q := ⟨hx.num.ext e, hx.den.ext e, hx.neg⟩
theorem RDr.ext {h h' : Heap} {x : Bool × Sl × Sl} {z : Int} {m : Nat} (hx : RDr h x z m) (e : Ext h h') : RDr h' x z m := ⟨hx.num.ext e, hx.den.ext e, hx.pos, hx.neg⟩
/-- It doesn't lie in a block. -/
theorem DN.keepB {h h' : Heap} {s : Sl} {n b : Nat} (hs : DN h s n) (k : Keep (some b) h h') (hb : h.size ≤ b) : DN h' s n := by
  obtain ⟨xs, x1, x2, x3, x4⟩ := hs
  exact ⟨xs, x1.keepB k (fun a ha hx e => by have := x1.lt ha hx; omega), x2, x3, x4⟩
theorem Keep.ext {b : Nat} {h h' : Heap} (k : Keep (some b) h h') (hb : h.size ≤ b) : Ext h h' := ⟨k.size, fun i hi _ => k.same i hi (by simp; omega)⟩

theorem DN.zero {h : Heap} {s : Sl} (hs : s.len = 0) : DN h s 0 := ⟨[], R.nil_of hs, Lim.nil, Nrm.nil, rfl⟩
/-- A row that is empty and has no room, or is one's own. -/
def Dg (kd : IntKind) (B : Nat) (h : Heap) (s : Sl) (ds : List Nat) : Prop := (ds = [] ∧ s.len = 0 ∧ s.cap = 0) ∨ OwnI kd B h s ds
theorem Dg.r {kd : IntKind} {B : Nat} {h : Heap} {s : Sl} {ds : List Nat} (hd : Dg kd B h s ds) : RI kd h s ds := by
  rcases hd with ⟨rfl, h1, _⟩ | h1
  · exact R.nil_of h1
  · exact h1.r
theorem Dg.ext {kd : IntKind} {B : Nat} {h h' : Heap} {s : Sl} {ds : List Nat} (hd : Dg kd B h s ds) (e : Ext h h') : Dg kd B h' s ds := hd.imp id fun h => h.ext e
theorem Dg.app {kd : IntKind} {bytes B : Nat} {n : Int} {m : Nat} {h h0 : Heap} {s : Sl} {xs : List Nat} {k : Sl → Heap → Prop} (hn : n = (m : Int)) (ho : Dg kd B h s xs) (hB : B ≤ h.size) (he : Ext h0 h) (h0B : h0.size ≤ B) (hb : (xs.length + 1) * bytes ≤ 2 ^ 46)
    (K : ∀ s' h', OwnI kd B h' s' (xs ++ [m]) → Ext h0 h' → h.size ≤ h'.size → k s' h') : new [Value.int kd n] h fun a h1 => appendS 1 bytes s (⟨some a, 1, 1⟩ : Sl) h1 k := by
  rcases ho with ⟨rfl, h1, h2⟩ | ho
  · refine new1 hn fun h1' hr he1 hsz => ?_
    have s1 := he1.size
    refine ⟨[Value.int kd (m : Int)], by have := hr.cells; simpa using this, rfl, by rw [h1]; simpa using hb, fun hfit => ?_, fun hgrow => ⟨[], by rw [h1]; cases s.a <;> simp [cellsO?, cells?], fun cap T rest hcap hrest => ?_⟩⟩
    · rw [h1, h2] at hfit; simp at hfit
    · have e2 : Ext h1' (h1'.push (.cells ([] ++ [Value.int kd (m : Int)] ++ rest).toArray T (0, 0))) := Ext.push _ _
      refine K _ _ ⟨R.mk' (by simp [h1]) (by simpa using hcap) ⟨h1'.size, 0, none⟩ rfl ?_, .inr ⟨h1'.size, _, T, rfl, by omega, by simp; rfl, ?_⟩⟩ (he.trans (he1.trans e2)) (by have := e2.size; omega)
      · intro i hi
        rw [cell_push_new_add]
        simp at hi
        subst hi
        simp
      · simp [hrest, h1] at *; omega
  · exact app1 hn ho hB hb fun s' h' ho' hk hs => K s' h' ho' (Keep.own he ho h0B hk) hs

end Go.Sh

namespace Go.Sh
open Go Go.Lift

/-- Limbs as they come in. -/
structure XR (h : Heap) (x : Bool × Sl × Sl) (xs ys : List Nat) : Prop where
  num : RI .u32 h x.2.1 xs
  lnum : Lim 4294967296 xs
  den : RI .u32 h x.2.2 ys
  lden : Lim 4294967296 ys
theorem XR.ext {h h' : Heap} {x : Bool × Sl × Sl} {xs ys : List Nat} (hx : XR h x xs ys) (e : Ext h h') : XR h' x xs ys := ⟨R.ext hx.num e, hx.lnum, R.ext hx.den e, hx.lden⟩
theorem nl_of_len {xs : List Nat} {k : Nat} (hl : Lim 4294967296 xs) (hk : xs.length ≤ k) : nl (val 4294967296 xs) ≤ k := by
  rw [nl_le_iff]
  exact Nat.lt_of_lt_of_le (val_lt hl) (Nat.pow_le_pow_right (by decide) hk)

theorem dn_den (q : Rat) : (if dn q = 0 then 1 else dn q) = q.den := by
  unfold dn
  by_cases h : q.den = 1
  · simp [h]
  · simp [h, q.den_nz]

section
variable {h : Heap} {x y : Bool × Sl × Sl} {p q : Rat} {Q : (Bool × Sl × Sl) → Heap → Prop}

end

end Go.Sh

namespace Go.Sh
open Go Go.Lift

def isQ (h : Heap) (x : Bool × Sl × Sl) : Prop := ∃ q, RQ h x q
theorem RI.uniq {kd : IntKind} {h : Heap} {s : Sl} {xs ys : List Nat} (hx : RI kd h s xs) (hy : RI kd h s ys) : xs = ys := by
  have := hx.cells.symm.trans hy.cells
  simp only [Option.some.injEq] at this
  have inj : ∀ (xs ys : List Nat), xs.map (fun n : Nat => Value.int kd (n : Int)) = ys.map (fun n : Nat => Value.int kd (n : Int)) → xs = ys := by
    intro xs
    induction xs with
    | nil => intro ys h; cases ys <;> simp_all
    | cons x xs ih =>
      intro ys h
      cases ys with
      | nil => simp at h
      | cons y ys =>
        simp only [List.map_cons, List.cons.injEq, Value.int.injEq, true_and] at h
        rw [ih ys h.2, show x = y from by omega]
  exact inj _ _ this
def Dn (ys : List Nat) : Nat := if val 4294967296 ys = 0 then 1 else val 4294967296 ys
theorem Dn_ne (ys : List Nat) : Dn ys ≠ 0 := by unfold Dn; split <;> simp_all
def Zn (b : Bool) (xs : List Nat) : Int := if b then -(val 4294967296 xs : Int) else (val 4294967296 xs : Int)
theorem Zn_abs (b : Bool) (xs : List Nat) : (Zn b xs).natAbs = val 4294967296 xs := by unfold Zn; split <;> omega
theorem Zn_neg {b : Bool} {xs : List Nat} (h : Zn b xs ≠ 0) : b = decide (Zn b xs < 0) := by
  unfold Zn at *
  cases b
  · simp
  · simp at h ⊢; omega
theorem NN.of {h : Heap} {s : Sl} {xs : List Nat} {n : Nat} (hx : RI .u32 h s xs) (hl : Lim 4294967296 xs) (hn : Nrm xs) (hv : val 4294967296 xs = n) (hk : xs.length ≤ 1048576) : NN h s n := ⟨xs, hx, hl, hn, hv, hk⟩
theorem NN.list {h : Heap} {s : Sl} {xs : List Nat} {n : Nat} (hs : NN h s n) (hx : RI .u32 h s xs) : Nrm xs ∧ val 4294967296 xs = n := by
  obtain ⟨ys, y1, y2, y3, y4, _⟩ := hs
  have := RI.uniq hx y1
  subst this
  exact ⟨y3, y4⟩

section
variable {h : Heap} {x : Bool × Sl × Sl} {xs ys : List Nat}
theorem XR.rq (hX : XR h x xs ys) {q : Rat} (hq : RQ h x q) : Nrm xs ∧ Nrm ys ∧ q.num = Zn x.1 xs ∧ q.den = Dn ys ∧ val 4294967296 ys = dn q := by
  obtain ⟨n1, v1⟩ := hq.num.list hX.num
  obtain ⟨n2, v2⟩ := hq.den.list hX.den
  refine ⟨n1, n2, ?_, ?_, v2⟩
  · unfold Zn
    rw [hq.neg]
    by_cases hn : q.num < 0
    · rw [if_pos (by simpa using hn)]; omega
    · rw [if_neg (by simpa using hn)]; omega
  · unfold Dn; rw [v2]; exact (dn_den q).symm
/-- What it takes to be in the one form. -/
theorem XR.isQ_iff (hX : XR h x xs ys) (lx : xs.length ≤ 1048576) (ly : ys.length ≤ 1048576) :
    isQ h x ↔ Nrm xs ∧ Nrm ys ∧ val 4294967296 ys ≠ 1 ∧ (if val 4294967296 xs = 0 then x.1 = false ∧ val 4294967296 ys = 0 else Nat.gcd (val 4294967296 xs) (Dn ys) = 1) := by
  constructor
  · rintro ⟨q, hq⟩
    obtain ⟨n1, n2, h1, h2, h3⟩ := hX.rq hq
    have hz := Zn_abs x.1 xs
    refine ⟨n1, n2, ?_, ?_⟩
    · rw [h3]; unfold dn; split
      · decide
      · rename_i h5; exact h5
    · split
      · rename_i h0
        have hq0 : q.num = 0 := by omega
        have : q = 0 := Rat.num_eq_zero.1 hq0
        subst this
        exact ⟨by rw [hq.neg]; rfl, by rw [h3]; rfl⟩
      · rw [← h2, ← hz, ← h1]; exact q.reduced
  · rintro ⟨n1, n2, h1, h2⟩
    refine ⟨mkRat (Zn x.1 xs) (Dn ys), ?_⟩
    have hz := Zn_abs x.1 xs
    have a1 := mk_num (Zn x.1 xs) (Dn_ne ys)
    have a2 := mk_den (Zn x.1 xs) (Dn_ne ys)
    have a3 := mk_neg (Zn x.1 xs) (Dn_ne ys)
    rw [hz] at a1 a2
    split at h2
    · rename_i h0
      have hzz : Zn x.1 xs = 0 := by omega
      rw [hzz, Rat.zero_mkRat]
      refine ⟨NN.of hX.num hX.lnum n1 h0 lx, NN.of hX.den hX.lden n2 (by rw [h2.2]; rfl) ly, by rw [h2.1]; rfl⟩
    · rename_i h0
      rw [h2, Nat.div_one] at a1 a2
      refine ⟨NN.of hX.num hX.lnum n1 a1.symm lx, NN.of hX.den hX.lden n2 ?_ ly, ?_⟩
      · unfold dn; rw [a2]; unfold Dn
        by_cases hy : val 4294967296 ys = 0
        · simp [hy]
        · simp [hy, h1]
      · have h5 := Zn_neg (by omega : Zn x.1 xs ≠ 0)
        exact h5.trans (decide_eq_decide.2 a3.symm)

theorem isOneR {Q : Bool → Heap → Prop} {s : Sl} {l : List Nat} (hs : RI .u32 h s l) (hl : Lim 4294967296 l) (hn : Nrm l) (hk : l.length ≤ 1048576) (K : ∀ h', Ext h h' → Q (decide (val 4294967296 l = 1)) h') : ratio_isOne s h Q :=
  isOne_spec (NN.of hs hl hn rfl hk) K

theorem nrm_iff {l : List Nat} : (l.getLast? != some 0) = true ↔ Nrm l := by unfold Nrm; simp
theorem val0uiff {l : List Nat} (hn : Nrm l) : l.length = 0 ↔ val 4294967296 l = 0 := by
  constructor
  · intro h; have := List.eq_nil_of_length_eq_zero h; subst this; rfl
  · intro h; rw [val_zero (by decide) hn h]; rfl

theorem RightQ_spec {Q : Bool → Heap → Prop} (ht : Tab h) (hX : XR h x xs ys) (lx : xs.length ≤ 400) (ly : ys.length ≤ 400) (K : ∀ b h', (b = true ↔ isQ h x) → Ext h h' → Q b h') : ratio_Right x h Q := by
  have hiff := hX.isQ_iff (by omega) (by omega)
  have lnx := hX.num.len
  have lny := hX.den.len
  refine mem_ext fun h1 e1 => ?_
  have X := hX.ext e1
  refine seq.cut (fun t h2 => (t = true ↔ ¬ (Nrm xs ∧ Nrm ys ∧ val 4294967296 ys ≠ 1)) ∧ Ext h1 h2) ?_ ?_
  · refine Right_spec X.num (by omega) ⟨fun hb => ?_, fun hb => ?_⟩
    · refine ⟨?_, Keep.refl _ _⟩
      have : ¬ Nrm xs := fun hn => by have := nrm_iff.2 hn; simp [this] at hb
      simp [this]
    · have n1 : Nrm xs := nrm_iff.1 (by simpa using hb)
      refine Right_spec X.den (by omega) ⟨fun hb => ?_, fun hb => ?_⟩
      · refine ⟨?_, Keep.refl _ _⟩
        have : ¬ Nrm ys := fun hn => by have := nrm_iff.2 hn; simp [this] at hb
        simp [this]
      · have n2 : Nrm ys := nrm_iff.1 (by simpa using hb)
        refine isOneR X.den X.lden n2 (by omega) fun h2 e2 => ⟨?_, e2⟩
        simp [n1, n2]
  · rintro t h2 ⟨htt, e2⟩
    have e12 := e1.trans e2
    refine ⟨fun hb => ?_, fun hb => ?_⟩
    · refine K false h2 ?_ e12
      have := htt.1 hb
      rw [hiff]
      simp only [Bool.false_eq_true, false_iff]
      exact fun h => this ⟨h.1, h.2.1, h.2.2.1⟩
    · have : Nrm xs ∧ Nrm ys ∧ val 4294967296 ys ≠ 1 := Classical.byContradiction fun h => by rw [htt.2 h] at hb; cases hb
      obtain ⟨n1, n2, n3⟩ := this
      have v1 := val0uiff n1
      have v2 := val0uiff n2
      refine ⟨fun hl => ?_, fun hl => ?_⟩
      · simp only [beq_iff_eq] at hl
        have h0 : val 4294967296 xs = 0 := v1.1 (by omega)
        refine seq.cut (fun t h3 => (t = true ↔ x.1 = false ∧ val 4294967296 ys = 0) ∧ h3 = h2) ?_ ?_
        · refine ⟨fun hn => ?_, fun hn => ?_⟩
          · refine ⟨?_, rfl⟩
            have hx1 : x.1 = false := by simpa using hn
            simp only [beq_iff_eq, hx1, true_and]
            rw [← v2]; omega
          · refine ⟨?_, rfl⟩
            have hx1 : x.1 = true := by simpa using hn
            simp [hx1]
        · rintro t h3 ⟨h4, rfl⟩
          refine K t h3 ?_ e12
          rw [hiff, if_pos h0, h4]
          exact ⟨fun h => ⟨n1, n2, n3, h⟩, fun h => h.2.2.2⟩
      · have h0 : val 4294967296 xs ≠ 0 := fun h0 => by
          have := v1.2 h0
          rw [lnx, this] at hl; simp at hl
        refine free_spec fun f h3 hb3 hf3 e3 => ?_
        have e13 := e12.trans e3
        have hfs : h.size ≤ f.block := by have := e12.size; omega
        have NX : NN h x.2.1 (val 4294967296 xs) := NN.of hX.num hX.lnum n1 rfl (by omega)
        have NY : NN h x.2.2 (val 4294967296 ys) := NN.of hX.den hX.lden n2 rfl (by omega)
        have bl := hb3.lt
        have nx := nl_of_len hX.lnum (k := 400) (by omega)
        have ny := nl_of_len hX.lden (k := 400) (by omega)
        have nd : nl (Dn ys) ≤ 401 := by unfold Dn; split; rw [nl_one]; omega; omega
        -- the denominator
        have den : ∀ {Q2 : Sl → Heap → Prop}, (∀ r h', NF f.block h' r (Dn ys) → Ext h3 h' → Q2 r h') → ratio_den (x.1, x.2.1, x.2.2) h3 Q2 := by
          intro Q2 K2
          have hD := NY.nf e13 hfs
          refine mem_ext fun h4 e4 => ⟨fun hz => ?_, fun hz => ?_⟩
          · simp only [beq_iff_eq] at hz
            have : val 4294967296 ys = 0 := v2.1 (by omega)
            refine one_spec fun r h5 hr e5 hfr => K2 r h5 ?_ (e4.trans e5)
            unfold Dn; rw [if_pos this]
            exact NF.fresh hr hfr (by have := e4.size; omega)
          · have : val 4294967296 ys ≠ 0 := fun h0 => by
              have := v2.2 h0
              rw [lny, this] at hz; simp at hz
            refine K2 _ h4 ?_ e4
            unfold Dn; rw [if_neg this]
            exact hD.ext e4
        refine den fun r h4 hr e4 => ?_
        refine gcdF ((ht.tb e13 hfs).ext e4) (hb3.ext e4) ((NX.nf e13 hfs).ext e4) hr (by omega) (by omega) fun g h5 hb5 k5 hg _ => ?_
        have e15 := (e13.trans e4).fresh hfs k5
        refine isOne_spec hg.1 fun h6 e6 => ?_
        refine K _ h6 ?_ (e15.trans e6)
        rw [hiff, if_neg h0, decide_eq_true_eq]
        exact ⟨fun h => ⟨n1, n2, n3, h⟩, fun h => h.2.2.2⟩

end
end Go.Sh

namespace Go.Sh
open Go Go.Lift

/-! ### Digits of a number, and its text -/
section
variable {h : Heap} {x : Bool × Sl × Sl} {q : Rat} {Q : ByteArray → Heap → Prop}
end

/-! ### Texts that are cut -/
/-! ### Noughts -/
end Go.Sh

namespace Go.Sh
open Go Go.Lift

/-- A text tells n through 10 ^ k. -/
def isDec (c : List Nat) (n k : Nat) : Prop :=
  (digs c = true ∧ c ≠ [] ∧ n = dv c ∧ k = 0) ∨
  ∃ p, 0 < p ∧ p + 1 < c.length ∧ c[p]? = some 46 ∧ digs (c.take p) = true ∧ digs (c.drop (p + 1)) = true ∧ n = dv (c.take p ++ c.drop (p + 1)) ∧ k = c.length - (p + 1)
theorem digs_mem {c : List Nat} (h : digs c = true) : ∀ x ∈ c, 48 ≤ x ∧ x ≤ 57 := by
  unfold digs at h
  simp only [List.all_eq_true, Bool.and_eq_true, decide_eq_true_eq] at h
  exact h
theorem digs_append {a b : List Nat} : digs (a ++ b) = true ↔ digs a = true ∧ digs b = true := by
  unfold digs; simp [List.all_append]
theorem no46 {c : List Nat} (h : digs c = true) : ∀ x ∈ c, x ≠ 46 := fun x hx => by have := digs_mem h x hx; omega
theorem isDec.uniq {c : List Nat} {n k n' k' : Nat} (h : isDec c n k) (h' : isDec c n' k') : n = n' ∧ k = k' := by
  rcases h with ⟨h1, h2, rfl, rfl⟩ | ⟨p, hp0, hp1, hp2, hp3, hp4, rfl, rfl⟩
  · rcases h' with ⟨_, _, rfl, rfl⟩ | ⟨p, _, hp1, hp2, _⟩
    · exact ⟨rfl, rfl⟩
    · exact absurd rfl (no46 h1 46 (List.mem_of_getElem? hp2))
  · rcases h' with ⟨h1, _⟩ | ⟨q, hq0, hq1, hq2, hq3, hq4, rfl, rfl⟩
    · exact absurd rfl (no46 h1 46 (List.mem_of_getElem? hp2))
    · have : p = q := by
        rcases Nat.lt_trichotomy p q with h | h | h
        · exfalso
          have : (c.take q)[p]? = some 46 := by rw [List.getElem?_take, if_pos h]; exact hp2
          exact no46 hq3 46 (List.mem_of_getElem? this) rfl
        · exact h
        · exfalso
          have : (c.take p)[q]? = some 46 := by rw [List.getElem?_take, if_pos h]; exact hq2
          exact no46 hp3 46 (List.mem_of_getElem? this) rfl
      subst this
      exact ⟨rfl, rfl⟩
theorem isDec.nl {c : List Nat} {n k : Nat} (h : isDec c n k) : nl n ≤ c.length ∧ k ≤ c.length := by
  rcases h with ⟨h1, h2, rfl, rfl⟩ | ⟨p, hp0, hp1, hp2, hp3, hp4, rfl, rfl⟩
  · exact ⟨dv_nl h1 (Nat.le_refl _), Nat.zero_le _⟩
  · exact ⟨dv_nl (digs_append.2 ⟨hp3, hp4⟩) (by simp; omega), by omega⟩

section
variable {a : Addr} {lim : Nat} {ov : Bool} {s : ByteArray} {h : Heap}
end
end Go.Sh

namespace Go.Sh
open Go Go.Lift

theorem digs_cons {x : Nat} {l : List Nat} : digs (x :: l) = true ↔ (48 ≤ x ∧ x ≤ 57) ∧ digs l = true := by
  unfold digs; simp

/-- What the letters from j on tell, read from the right. -/
structure Seen (c : List Nat) (j : Nat) (pt : Int) (ds : List Nat) : Prop where
  le : j ≤ c.length
  cases : (pt = -1 ∧ digs (c.drop j) = true ∧ ds = (c.drop j).reverse.map (· - 48)) ∨
    ∃ p : Nat, pt = (p : Int) ∧ j ≤ p ∧ 0 < p ∧ p + 1 < c.length ∧ c[p]? = some 46 ∧ digs ((c.take p).drop j) = true ∧ digs (c.drop (p + 1)) = true ∧ ds = ((c.take p).drop j ++ c.drop (p + 1)).reverse.map (· - 48)

theorem Seen.digit {c : List Nat} {j : Nat} {pt : Int} {ds : List Nat} (h : Seen c (j + 1) pt ds) (hx : 48 ≤ c[j]'(by have := h.le; omega) ∧ c[j]'(by have := h.le; omega) ≤ 57) : Seen c j pt (ds ++ [c[j]'(by have := h.le; omega) - 48]) := by
  have hl := h.le
  have hj : j < c.length := by omega
  refine ⟨by omega, ?_⟩
  rcases h.cases with ⟨h1, h2, rfl⟩ | ⟨p, h1, h2, h3, h4, h5, h6, h7, rfl⟩
  · left
    refine ⟨h1, ?_, ?_⟩
    · rw [List.drop_eq_getElem_cons hj]; exact digs_cons.2 ⟨hx, h2⟩
    · rw [List.drop_eq_getElem_cons hj, List.reverse_cons, List.map_append]; rfl
  · right
    have hjp : j < (c.take p).length := by simp; omega
    have e : (c.take p).drop j = c[j] :: (c.take p).drop (j + 1) := by
      rw [List.drop_eq_getElem_cons hjp]; simp
    refine ⟨p, h1, by omega, h3, h4, h5, ?_, h7, ?_⟩
    · rw [e]; exact digs_cons.2 ⟨hx, h6⟩
    · rw [e, List.cons_append, List.reverse_cons, List.map_append]; rfl
/-- A letter that may not be. -/
theorem Seen.bad {c : List Nat} {j : Nat} {pt : Int} {ds : List Nat} (h : Seen c (j + 1) pt ds) (hx : ¬ (48 ≤ c[j]'(by have := h.le; omega) ∧ c[j]'(by have := h.le; omega) ≤ 57)) (hp : ¬ (c[j]'(by have := h.le; omega) = 46 ∧ pt < 0 ∧ 0 < j ∧ j + 1 < c.length)) (n k : Nat) : ¬ isDec c n k := by
  have hl := h.le
  have hj : j < c.length := by omega
  have hcj : c[j]? = some c[j] := List.getElem?_eq_getElem hj
  rintro (⟨h1, _⟩ | ⟨p, hp0, hp1, hp2, hp3, hp4, _⟩)
  · exact hx (digs_mem h1 _ (List.getElem_mem hj))
  · have hjp : j = p := by
      rcases Nat.lt_trichotomy j p with h | h | h
      · exfalso
        have : (c.take p)[j]? = some c[j] := by rw [List.getElem?_take, if_pos h]; exact hcj
        exact hx (digs_mem hp3 _ (List.mem_of_getElem? this))
      · exact h
      · exfalso
        have : (c.drop (p + 1))[j - (p + 1)]? = some c[j] := by rw [List.getElem?_drop, show p + 1 + (j - (p + 1)) = j from by omega]; exact hcj
        exact hx (digs_mem hp4 _ (List.mem_of_getElem? this))
    subst hjp
    have h46 : c[j] = 46 := by rw [hcj] at hp2; exact Option.some.inj hp2
    refine hp ⟨h46, ?_, hp0, hp1⟩
    rcases h.cases with ⟨h1, _⟩ | ⟨q, h1, h2, h3, h4, h5, _⟩
    · omega
    · exfalso
      have : (c.drop (j + 1))[q - (j + 1)]? = some 46 := by rw [List.getElem?_drop, show j + 1 + (q - (j + 1)) = q from by omega]; exact h5
      exact no46 hp4 _ (List.mem_of_getElem? this) rfl
theorem Seen.lim {c : List Nat} {j : Nat} {pt : Int} {ds : List Nat} (h : Seen c j pt ds) : Lim 10 ds ∧ ds.length ≤ c.length := by
  have hl := h.le
  rcases h.cases with ⟨_, h2, rfl⟩ | ⟨p, _, h2, _, h4, _, h6, h7, rfl⟩
  · exact ⟨digs_lim h2, by simp⟩
  · exact ⟨digs_lim (digs_append.2 ⟨h6, h7⟩), by simp; omega⟩

end Go.Sh

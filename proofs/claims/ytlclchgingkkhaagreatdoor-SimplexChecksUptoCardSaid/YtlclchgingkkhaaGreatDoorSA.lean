/-
  Laws that the proof of this claim's statement leans on, each proved under the conditions that it states.
-/
import Derived.Test.YtlclchgingkkhaaGreatDoorMC
set_option linter.unusedVariables false
set_option linter.unusedSimpArgs false
namespace Go.Sh
open Go Go.Lift
def P0 (d : Rat × Rat) : Prop := 0 < d.1 ∨ (d.1 = 0 ∧ 0 ≤ d.2)
def P1 (d : Rat × Rat) : Prop := 0 < d.1 ∨ (d.1 = 0 ∧ 0 < d.2)
def ltV (x y : Rat × Rat) : Prop := x.1 < y.1 ∨ (x.1 = y.1 ∧ x.2 < y.2)
theorem abO {a : Rat} : a.num < 0 ↔ a < 0 := by
  have h : ¬ (0 ≤ a.num) ↔ ¬ (0 ≤ a) := not_congr Rat.num_nonneg
  constructor
  · intro h1
    have := h.1 (by omega)
    grind
  · intro h1
    have := h.2 (by grind)
    omega
theorem adP {a : Rat} : 0 < a.num ↔ 0 < a := by
  have h : (-a).num < 0 ↔ -a < 0 := abO
  have e : (-a).num = -a.num := by simp
  rw [e] at h
  constructor
  · intro h1
    have := h.1 (by omega)
    grind
  · intro h1
    have := h.2 (by grind)
    omega
theorem z8 {p q : Rat} : cmpR p q < 0 ↔ p < q := by
  unfold cmpR
  have : (p - q).num.sign < 0 ↔ (p - q).num < 0 := by
    rcases Int.lt_trichotomy (p - q).num 0 with h | h | h
    · rw [Int.sign_eq_neg_one_of_neg h]; omega
    · rw [h]; simp
    · rw [Int.sign_eq_one_of_pos h]; omega
  rw [this, abO]
  grind
theorem vj {x y : Rat × Rat} : cmpD x y < 0 ↔ ltV x y := by
  unfold cmpD ltV
  split
  · rename_i h
    have h1 := xf.1 h
    rw [z8]
    grind
  · rename_i h
    have h1 : x.1 ≠ y.1 := fun e => h (xf.2 e)
    rw [z8]
    grind
theorem aao {x y : Rat × Rat} : 0 < cmpD x y ↔ ltV y x := by
  rw [← vj, zD x y]; omega
theorem zx {up : Bool} {e : Eg} {x : Rat × Rat} : byd up e x = true ↔ e.1 ≠ 0 ∧ if up then ltV e.2 x else ltV x e.2 := by
  unfold byd sg
  rw [Bool.and_eq_true, decide_eq_true_eq, decide_eq_true_eq]
  cases up
  · simp only [Bool.false_eq_true, if_false]
    rw [← vj (x := x)]
    constructor <;> rintro ⟨h1, h2⟩ <;> exact ⟨h1, by omega⟩
  · simp only [if_true]
    rw [← aao (x := x)]
    constructor <;> rintro ⟨h1, h2⟩ <;> exact ⟨h1, by omega⟩
theorem zX {up : Bool} {e : Eg} {x : Rat × Rat} : roo up e x = true ↔ e.1 = 0 ∨ if up then ltV x e.2 else ltV e.2 x := by
  unfold roo sg
  rw [Bool.or_eq_true, decide_eq_true_eq, decide_eq_true_eq]
  cases up
  · simp only [Bool.false_eq_true, if_false]
    rw [← aao (x := x)]
    constructor <;> (rintro (h1 | h2); exact .inl h1; exact .inr (by omega))
  · simp only [if_true]
    rw [← vj (x := x)]
    constructor <;> (rintro (h1 | h2); exact .inl h1; exact .inr (by omega))
def sum2 (F : Int × Rat → Rat × Rat) : PL → Rat × Rat
  | [] => (0, 0)
  | m :: l => ((F m).1 + (sum2 F l).1, (F m).2 + (sum2 F l).2)
theorem ac8 {F : Int × Rat → Rat × Rat} : ∀ {l : PL}, (∀ m ∈ l, P0 (F m)) → P0 (sum2 F l)
  | [], _ => .inr ⟨rfl, by simp [sum2]⟩
  | m :: l, h => by
    have h1 := h m (List.mem_cons_self ..)
    have h2 := ac8 fun x hx => h x (List.mem_cons_of_mem _ hx)
    unfold P0 at *
    simp only [sum2]
    grind
theorem adc {F : Int × Rat → Rat × Rat} : ∀ {l : PL}, (∀ m ∈ l, P0 (F m)) → (∃ m ∈ l, P1 (F m)) → P1 (sum2 F l)
  | [], _, ⟨m, hm, _⟩ => by cases hm
  | m :: l, h, ⟨x, hx, hp⟩ => by
    have h1 := h m (List.mem_cons_self ..)
    have h2 := ac8 fun x hx => h x (List.mem_cons_of_mem _ hx)
    rcases List.mem_cons.1 hx with rfl | hx
    · unfold P0 P1 at *
      simp only [sum2]
      grind
    · have h3 := adc (fun x hx => h x (List.mem_cons_of_mem _ hx)) ⟨x, hx, hp⟩
      unfold P0 P1 at *
      simp only [sum2]
      grind
theorem xn (s : Rat) (f g : Int → Rat × Rat) : ∀ l : PL, sum2 (fun m => (s * m.2 * ((f m.1).1 - (g m.1).1), s * m.2 * ((f m.1).2 - (g m.1).2))) l = (s * ((valV f l).1 - (valV g l).1), s * ((valV f l).2 - (valV g l).2))
  | [] => by simp only [sum2, valV, valL]; congr 1 <;> grind
  | m :: l => by
    rw [sum2, xn s f g l]
    simp only [valV, valL]
    congr 1 <;> grind
theorem P0.sc {a : Rat} {d : Rat × Rat} (ha : 0 < a) (h : P0 d) : P0 (a * d.1, a * d.2) := by
  rcases h with h | ⟨h1, h2⟩
  · exact .inl (Rat.mul_pos ha h)
  · exact .inr ⟨by simp [h1], Rat.mul_nonneg (Rat.le_of_lt ha) h2⟩
theorem P1.sc {a : Rat} {d : Rat × Rat} (ha : 0 < a) (h : P1 d) : P1 (a * d.1, a * d.2) := by
  rcases h with h | ⟨h1, h2⟩
  · exact .inl (Rat.mul_pos ha h)
  · exact .inr ⟨by simp [h1], Rat.mul_pos ha h2⟩
structure Stp (eg : Bool → Int → Eg) (bas : Int → Prop) (f : Int → Rat × Rat) (p q : Int) (up : Bool) (row : PL) : Prop where
  pb : bas p
  vi : byd up (eg up p) (f p) = true
  min : ∀ w c, bas w → byd c (eg c w) (f w) = true → p ≤ w
  qin : ∃ a, (q, a) ∈ row
  room : ∀ m ∈ row, m.1 = q → roo (wayB m.2 up) (eg (wayB m.2 up) q) (f q) = true
  full : ∀ m ∈ row, m.1 < q → roo (wayB m.2 up) (eg (wayB m.2 up) m.1) (f m.1) = false
  nb : ∀ m ∈ row, ¬ bas m.1
  nz : ∀ m ∈ row, m.2 ≠ 0
theorem abS {a : Rat} {up : Bool} (ha : 0 < a) : wayB a up = !up := by
  unfold wayB
  have : a.num.sign > 0 := by
    have : 0 < a.num := adP.2 ha
    rw [Int.sign_eq_one_of_pos this]; decide
  simp [this]
theorem ab8 {a : Rat} {up : Bool} (ha : a < 0) : wayB a up = up := by
  unfold wayB
  have : ¬ a.num.sign > 0 := by
    have : a.num < 0 := abO.2 ha
    rw [Int.sign_eq_neg_one_of_neg this]; decide
  simp [this]
theorem yl {eg : Bool → Int → Eg} {basT basS : Int → Prop} {fT fS : Int → Rat × Rat} {pT r qS : Int} {uT uS : Bool} {rowT rowS : PL} (T : Stp eg basT fT pT r uT rowT) (S : Stp eg basS fS r qS uS rowS)
    (eT : valV fT rowT = fT pT) (eS : valV fS rowT = fS pT) (hp : pT ≤ r) (inb : ∀ v, ¬ basS v → (v = pT ∨ ∃ m ∈ rowT, m.1 = v) → ∀ c, byd c (eg c v) (fS v) = false) (ha : fT r = (eg uS r).2) (hb : ∀ m ∈ rowT, r < m.1 → fS m.1 = fT m.1) : False := by
  -- at S what is below r is within its bounds
  have within : ∀ v, v < r → (v = pT ∨ ∃ m ∈ rowT, m.1 = v) → ∀ c, byd c (eg c v) (fS v) = false := by
    intro v hv hin c
    by_cases h : basS v
    · cases hc : byd c (eg c v) (fS v)
      · rfl
      · have := S.min v c h hc; omega
    · exact inb v h hin c
  have hne : pT ≠ r := by
    intro e
    obtain ⟨a, hq⟩ := T.qin
    exact T.nb _ hq (e ▸ T.pb)
  have hlt : pT < r := by omega
  obtain ⟨s, hs⟩ : ∃ s : Rat, s = if uT then 1 else -1 := ⟨_, rfl⟩
  have hterm : ∀ m ∈ rowT, P0 (s * m.2 * ((fS m.1).1 - (fT m.1).1), s * m.2 * ((fS m.1).2 - (fT m.1).2)) ∧ (m.1 = r → P1 (s * m.2 * ((fS m.1).1 - (fT m.1).1), s * m.2 * ((fS m.1).2 - (fT m.1).2))) := by
    intro m hm
    have hz := T.nz m hm
    have hsgn : 0 < m.2 ∨ m.2 < 0 := by grind
    rcases Int.lt_trichotomy m.1 r with h | h | h
    · refine ⟨?_, fun e => by omega⟩
      have h1 := T.full m hm h
      have h2 := within m.1 h (.inr ⟨m, hm, rfl⟩) (wayB m.2 uT)
      have h1' : ¬ (roo (wayB m.2 uT) (eg (wayB m.2 uT) m.1) (fT m.1) = true) := by rw [h1]; simp
      have h2' : ¬ (byd (wayB m.2 uT) (eg (wayB m.2 uT) m.1) (fS m.1) = true) := by rw [h2]; simp
      rw [zX] at h1'
      rw [zx] at h2'
      have key : ∀ c : Bool, ¬ ((eg c m.1).1 = 0 ∨ if c then ltV (fT m.1) (eg c m.1).2 else ltV (eg c m.1).2 (fT m.1)) → ¬ ((eg c m.1).1 ≠ 0 ∧ if c then ltV (eg c m.1).2 (fS m.1) else ltV (fS m.1) (eg c m.1).2) →
          P0 (if c then ((fT m.1).1 - (fS m.1).1, (fT m.1).2 - (fS m.1).2) else ((fS m.1).1 - (fT m.1).1, (fS m.1).2 - (fT m.1).2)) := by
        intro c k1 k2
        cases c
        · simp only [Bool.false_eq_true, if_false] at k1 k2 ⊢
          unfold ltV at k1 k2; unfold P0; grind
        · simp only [if_true] at k1 k2 ⊢
          unfold ltV at k1 k2; unfold P0; grind
      have hd := key _ h1' h2'
      rcases hsgn with hg | hg
      · rw [abS hg] at hd
        cases uT
        · simp only [Bool.not_false, if_true] at hd
          have := hd.sc hg
          subst hs
          simp only [Bool.false_eq_true, if_false]
          have e1 : -1 * m.2 * ((fS m.1).1 - (fT m.1).1) = m.2 * ((fT m.1).1 - (fS m.1).1) := by grind
          have e2 : -1 * m.2 * ((fS m.1).2 - (fT m.1).2) = m.2 * ((fT m.1).2 - (fS m.1).2) := by grind
          rw [e1, e2]; exact this
        · simp only [Bool.not_true, Bool.false_eq_true, if_false] at hd
          have := hd.sc hg
          subst hs
          simp only [if_true]
          have e1 : 1 * m.2 * ((fS m.1).1 - (fT m.1).1) = m.2 * ((fS m.1).1 - (fT m.1).1) := by grind
          have e2 : 1 * m.2 * ((fS m.1).2 - (fT m.1).2) = m.2 * ((fS m.1).2 - (fT m.1).2) := by grind
          rw [e1, e2]; exact this
      · rw [ab8 hg] at hd
        have hg' : 0 < -m.2 := by grind
        cases uT
        · simp only [Bool.false_eq_true, if_false] at hd
          have := hd.sc hg'
          subst hs
          simp only [Bool.false_eq_true, if_false]
          have e1 : -1 * m.2 * ((fS m.1).1 - (fT m.1).1) = -m.2 * ((fS m.1).1 - (fT m.1).1) := by grind
          have e2 : -1 * m.2 * ((fS m.1).2 - (fT m.1).2) = -m.2 * ((fS m.1).2 - (fT m.1).2) := by grind
          rw [e1, e2]; exact this
        · simp only [if_true] at hd
          have := hd.sc hg'
          subst hs
          simp only [if_true]
          have e1 : 1 * m.2 * ((fS m.1).1 - (fT m.1).1) = -m.2 * ((fT m.1).1 - (fS m.1).1) := by grind
          have e2 : 1 * m.2 * ((fS m.1).2 - (fT m.1).2) = -m.2 * ((fT m.1).2 - (fS m.1).2) := by grind
          rw [e1, e2]; exact this
    · -- r itself
      have h1 := T.room m hm h
      have h2 := zx.1 S.vi
      have hc : wayB m.2 uT = !uS := by
        cases hcc : wayB m.2 uT == uS
        · cases hw : wayB m.2 uT <;> cases uS <;> simp_all
        · have hw : wayB m.2 uT = uS := by simpa using hcc
          exfalso
          rw [hw, zX, ha] at h1
          rcases h1 with h1 | h1
          · exact h2.1 h1
          · cases uS <;> simp [ltV] at h1 <;> grind
      have hd : P1 (if uS then ((fS r).1 - (fT r).1, (fS r).2 - (fT r).2) else ((fT r).1 - (fS r).1, (fT r).2 - (fS r).2)) := by
        rw [ha]
        have h3 := h2.2
        cases uS
        · simp only [Bool.false_eq_true, if_false] at h3 ⊢
          unfold ltV at h3; unfold P1; grind
        · simp only [if_true] at h3 ⊢
          unfold ltV at h3; unfold P1; grind
      have hP : P1 (s * m.2 * ((fS m.1).1 - (fT m.1).1), s * m.2 * ((fS m.1).2 - (fT m.1).2)) := by
        rw [h]
        rcases hsgn with hg | hg
        · rw [abS hg] at hc
          have hu : uS = uT := (Bool.not_inj hc).symm
          subst hu
          have := hd
          cases uS
          · simp only [Bool.false_eq_true, if_false] at this
            have := this.sc hg
            subst hs
            simp only [Bool.false_eq_true, if_false]
            have e1 : -1 * m.2 * ((fS r).1 - (fT r).1) = m.2 * ((fT r).1 - (fS r).1) := by grind
            have e2 : -1 * m.2 * ((fS r).2 - (fT r).2) = m.2 * ((fT r).2 - (fS r).2) := by grind
            rw [e1, e2]; exact this
          · simp only [if_true] at this
            have := this.sc hg
            subst hs
            simp only [if_true]
            have e1 : 1 * m.2 * ((fS r).1 - (fT r).1) = m.2 * ((fS r).1 - (fT r).1) := by grind
            have e2 : 1 * m.2 * ((fS r).2 - (fT r).2) = m.2 * ((fS r).2 - (fT r).2) := by grind
            rw [e1, e2]; exact this
        · rw [ab8 hg] at hc
          have hu : uS = !uT := by rw [hc, Bool.not_not]
          subst hu
          have hg' : 0 < -m.2 := by grind
          cases uT
          · simp only [Bool.not_false, if_true] at hd
            have := hd.sc hg'
            subst hs
            simp only [Bool.false_eq_true, if_false]
            have e1 : -1 * m.2 * ((fS r).1 - (fT r).1) = -m.2 * ((fS r).1 - (fT r).1) := by grind
            have e2 : -1 * m.2 * ((fS r).2 - (fT r).2) = -m.2 * ((fS r).2 - (fT r).2) := by grind
            rw [e1, e2]; exact this
          · simp only [Bool.not_true, Bool.false_eq_true, if_false] at hd
            have := hd.sc hg'
            subst hs
            simp only [if_true]
            have e1 : 1 * m.2 * ((fS r).1 - (fT r).1) = -m.2 * ((fT r).1 - (fS r).1) := by grind
            have e2 : 1 * m.2 * ((fS r).2 - (fT r).2) = -m.2 * ((fT r).2 - (fS r).2) := by grind
            rw [e1, e2]; exact this
      refine ⟨?_, fun _ => hP⟩
      unfold P1 at hP; unfold P0; grind
    · refine ⟨?_, fun e => by omega⟩
      rw [hb m hm h]
      right
      constructor
      · show s * m.2 * ((fT m.1).1 - (fT m.1).1) = 0; grind
      · show 0 ≤ s * m.2 * ((fT m.1).2 - (fT m.1).2)
        have : s * m.2 * ((fT m.1).2 - (fT m.1).2) = 0 := by grind
        rw [this]; exact Rat.le_refl
  obtain ⟨a, hq⟩ := T.qin
  have hsum := adc (fun m hm => (hterm m hm).1) ⟨_, hq, (hterm _ hq).2 rfl⟩
  rw [xn, eS, eT] at hsum
  have hv := zx.1 T.vi
  have : byd uT (eg uT pT) (fS pT) = true := by
    rw [zx]
    refine ⟨hv.1, ?_⟩
    have h3 := hv.2
    cases uT
    · subst hs
      simp only [Bool.false_eq_true, if_false] at h3 hsum ⊢
      unfold ltV at h3 ⊢; unfold P1 at hsum
      grind
    · subst hs
      simp only [if_true] at h3 hsum ⊢
      unfold ltV at h3 ⊢; unfold P1 at hsum
      grind
  rw [within pT hlt (.inl rfl) uT] at this
  cases this
end Go.Sh

namespace Go.Sh
open Go Go.Lift
structure Run (N : Nat) (n : Int) (eg : Bool → Int → Eg) (bas : Nat → Int → Prop) (f : Nat → Int → Rat × Rat) (p q : Nat → Int) (up : Nat → Bool) (row : Nat → PL) : Prop where
  st : ∀ k, k < N → Stp eg (bas k) (f k) (p k) (q k) (up k) (row k)
  eqn : ∀ k, k < N → ∀ m, m < N → valV (f m) (row k) = f m (p k)
  rng : ∀ k, k < N → (0 ≤ p k ∧ p k < n) ∧ ∀ m ∈ row k, 0 ≤ m.1 ∧ m.1 < n
  bas' : ∀ k, k < N → ∀ v, bas (k + 1) v ↔ (bas k v ∧ v ≠ p k) ∨ v = q k
  keep : ∀ k, k < N → ∀ v, 0 ≤ v → v < n → ¬ bas k v → v ≠ q k → f (k + 1) v = f k v
  put : ∀ k, k < N → f (k + 1) (p k) = (eg (up k) (p k)).2
  inb : ∀ k, k ≤ N → ∀ v, 0 ≤ v → v < n → ¬ bas k v → ∀ c, byd c (eg c v) (f k v) = false
theorem aaA {P : Nat → Prop} {a : Nat} : ∀ {b : Nat}, (∃ t, a ≤ t ∧ t < b ∧ P t) → ∃ t, a ≤ t ∧ t < b ∧ P t ∧ ∀ u, t < u → u < b → ¬ P u
  | 0, ⟨t, _, h, _⟩ => by omega
  | b + 1, ⟨t, h1, h2, h3⟩ => by
    by_cases hb : P b ∧ a ≤ b
    · exact ⟨b, hb.2, by omega, hb.1, fun u h4 h5 => by omega⟩
    · have htb : t < b := by
        rcases Nat.lt_or_ge t b with h | h
        · exact h
        · have : t = b := by omega
          subst this
          exact absurd ⟨h3, h1⟩ hb
      obtain ⟨u, h4, h5, h6, h7⟩ := aaA ⟨t, h1, htb, h3⟩
      refine ⟨u, h4, by omega, h6, fun w h8 h9 hw => ?_⟩
      rcases Nat.lt_or_ge w b with h | h
      · exact h7 w h8 h hw
      · have : w = b := by omega
        subst this
        exact hb ⟨hw, by omega⟩
theorem aaN {P : Nat → Prop} {a b : Nat} (h : ∃ t, a ≤ t ∧ t < b ∧ P t) : ∃ t, a ≤ t ∧ t < b ∧ P t ∧ ∀ u, a ≤ u → u < t → ¬ P u := by
  obtain ⟨t, h1, h2, h3⟩ := h
  induction t using Nat.strongRecOn with
  | _ t ih =>
    by_cases hc : ∃ u, a ≤ u ∧ u < t ∧ P u
    · obtain ⟨u, h4, h5, h6⟩ := hc
      exact ih u h5 h4 (by omega) h6
    · exact ⟨t, h1, h2, h3, fun u h4 h5 h6 => hc ⟨u, h4, h5, h6⟩⟩
section
variable {N : Nat} {n : Int} {eg : Bool → Int → Eg} {bas : Nat → Int → Prop} {f : Nat → Int → Rat × Rat} {p q : Nat → Int} {up : Nat → Bool} {row : Nat → PL}
theorem Run.qrng (R : Run N n eg bas f p q up row) {k : Nat} (hk : k < N) : 0 ≤ q k ∧ q k < n := by
  obtain ⟨a, h⟩ := (R.st k hk).qin
  exact (R.rng k hk).2 _ h
theorem Run.qnb (R : Run N n eg bas f p q up row) {k : Nat} (hk : k < N) : ¬ bas k (q k) := by
  obtain ⟨a, h⟩ := (R.st k hk).qin
  exact (R.st k hk).nb _ h
theorem Run.out (R : Run N n eg bas f p q up row) {v : Int} (h0 : 0 ≤ v) (hn : v < n) {a : Nat} : ∀ {d : Nat}, a + d ≤ N → (∀ t, a ≤ t → t < a + d → q t ≠ v) → ¬ bas a v → ¬ bas (a + d) v ∧ f (a + d) v = f a v
  | 0, _, _, hb => ⟨hb, rfl⟩
  | d + 1, hd, hq, hb => by
    obtain ⟨h1, h2⟩ := R.out h0 hn (d := d) (by omega) (fun t h1 h2 => hq t h1 (by omega)) hb
    have hk : a + d < N := by omega
    have hv := hq (a + d) (by omega) (by omega)
    refine ⟨fun h => ?_, ?_⟩
    · rcases (R.bas' _ hk v).1 h with ⟨h3, _⟩ | h3
      · exact h1 h3
      · exact hv h3.symm
    · rw [← h2]; exact R.keep _ hk v h0 hn h1 (Ne.symm hv)
theorem Run.outAt (R : Run N n eg bas f p q up row) {v : Int} (h0 : 0 ≤ v) (hn : v < n) {a b : Nat} (hab : a ≤ b) (hb : b ≤ N) (hq : ∀ t, a ≤ t → t < b → q t ≠ v) (ha : ¬ bas a v) : ¬ bas b v ∧ f b v = f a v := by
  obtain ⟨d, rfl⟩ : ∃ d, b = a + d := ⟨b - a, by omega⟩
  exact R.out h0 hn hb hq ha
theorem Run.inn (R : Run N n eg bas f p q up row) {v : Int} {a : Nat} : ∀ {d : Nat}, a + d ≤ N → (∀ t, a ≤ t → t < a + d → p t ≠ v) → bas a v → bas (a + d) v
  | 0, _, _, hb => hb
  | d + 1, hd, hp, hb => by
    have h1 := R.inn (d := d) (by omega) (fun t h1 h2 => hp t h1 (by omega)) hb
    exact (R.bas' (a + d) (by omega) v).2 (.inl ⟨h1, Ne.symm (hp (a + d) (by omega) (by omega))⟩)
theorem Run.innAt (R : Run N n eg bas f p q up row) {v : Int} {a b : Nat} (hab : a ≤ b) (hb : b ≤ N) (hp : ∀ t, a ≤ t → t < b → p t ≠ v) (ha : bas a v) : bas b v := by
  obtain ⟨d, rfl⟩ : ∃ d, b = a + d := ⟨b - a, by omega⟩
  exact R.inn hb hp ha
theorem Run.pout (R : Run N n eg bas f p q up row) {k : Nat} (hk : k < N) : ¬ bas (k + 1) (p k) := fun h => by
  rcases (R.bas' k hk _).1 h with ⟨_, h⟩ | h
  · exact h rfl
  · exact R.qnb hk (h ▸ (R.st k hk).pb)
theorem yN {P : Int → Prop} {n : Int} (hb : ∀ v, P v → v < n) (h : ∃ v, P v ∧ 0 ≤ v) : ∃ r, P r ∧ ∀ v, P v → v ≤ r := by
  obtain ⟨v, hv, h0⟩ := h
  obtain ⟨d, hd⟩ : ∃ d : Nat, (n - v).toNat = d := ⟨_, rfl⟩
  induction d using Nat.strongRecOn generalizing v with
  | _ d ih =>
    by_cases hc : ∃ u, P u ∧ v < u
    · obtain ⟨u, h1, h2⟩ := hc
      have := hb u h1
      exact ih (n - u).toNat (by omega) u h1 (by omega) rfl
    · exact ⟨v, hv, fun u hu => Classical.byContradiction fun h => hc ⟨u, hu, by omega⟩⟩
theorem Run.no_cycle (R : Run N n eg bas f p q up row) {i k : Nat} (hik : i < k) (hk : k ≤ N) (hb : ∀ v, 0 ≤ v → v < n → (bas i v ↔ bas k v)) (hf : ∀ v, 0 ≤ v → v < n → ¬ bas i v → f i v = f k v) : False := by
  obtain ⟨r, hr, hmax⟩ := yN (P := fun v => ∃ t, i ≤ t ∧ t < k ∧ (p t = v ∨ q t = v)) (n := n) (fun v ⟨t, h1, h2, h3⟩ => by
    have := (R.rng t (by omega)).1
    have := R.qrng (k := t) (by omega)
    rcases h3 with rfl | rfl <;> omega) ⟨p i, ⟨i, by omega, hik, .inl rfl⟩, (R.rng i (by omega)).1.1⟩
  have hr0 : 0 ≤ r ∧ r < n := by
    obtain ⟨t, h1, h2, h3⟩ := hr
    have := (R.rng t (by omega)).1
    have := R.qrng (k := t) (by omega)
    rcases h3 with rfl | rfl <;> omega
  -- it comes in
  have hent : ∃ t, i ≤ t ∧ t < k ∧ q t = r := by
    refine Classical.byContradiction fun hno => ?_
    have hq : ∀ t, i ≤ t → t < k → q t ≠ r := fun t h1 h2 e => hno ⟨t, h1, h2, e⟩
    obtain ⟨t, h1, h2, h3⟩ := hr
    have hp : p t = r := h3.resolve_right (hq t h1 h2)
    have hbt : bas t r := hp ▸ (R.st t (by omega)).pb
    have hbi : bas i r := Classical.byContradiction fun h => (R.outAt hr0.1 hr0.2 h1 (by omega) (fun u h4 h5 => hq u h4 (by omega)) h).1 hbt
    have hbk := (hb r hr0.1 hr0.2).1 hbi
    have : ¬ bas (t + 1) r := hp ▸ R.pout (by omega)
    exact (R.outAt hr0.1 hr0.2 (show t + 1 ≤ k by omega) hk (fun u h4 h5 => hq u (by omega) h5) this).1 hbk
  obtain ⟨T, t1, t2, t3, t4⟩ := aaN hent
  have hTn : ¬ bas T r := t3 ▸ R.qnb (by omega)
  -- it goes
  have hS : ∃ S, i ≤ S ∧ S < k ∧ p S = r ∧ f T r = (eg (up S) r).2 := by
    by_cases hc : ∃ S, i ≤ S ∧ S < T ∧ p S = r
    · obtain ⟨S, s1, s2, s3⟩ := hc
      refine ⟨S, s1, by omega, s3, ?_⟩
      have h1 : ¬ bas (S + 1) r := s3 ▸ R.pout (by omega)
      rw [(R.outAt hr0.1 hr0.2 (show S + 1 ≤ T by omega) (by omega) (fun u h4 h5 => t4 u (by omega) h5) h1).2, ← s3]
      exact R.put S (by omega)
    · have hbi : ¬ bas i r := fun h => hTn (R.innAt t1 (by omega) (fun u h4 h5 e => hc ⟨u, h4, h5, e⟩) h)
      have hfT : f T r = f i r := (R.outAt hr0.1 hr0.2 t1 (by omega) (fun u h4 h5 => t4 u h4 h5) hbi).2
      have hbk : ¬ bas k r := fun h => hbi ((hb r hr0.1 hr0.2).2 h)
      have hbT1 : bas (T + 1) r := (R.bas' T (by omega) r).2 (.inr t3.symm)
      have hex : ∃ S, T + 1 ≤ S ∧ S < k ∧ p S = r := Classical.byContradiction fun hno => hbk (R.innAt (show T + 1 ≤ k by omega) hk (fun u h4 h5 e => hno ⟨u, h4, h5, e⟩) hbT1)
      obtain ⟨S, s1, s2, s3, s4⟩ := aaA hex
      refine ⟨S, by omega, s2, s3, ?_⟩
      have h1 : ¬ bas (S + 1) r := s3 ▸ R.pout (by omega)
      have hq : ∀ u, S + 1 ≤ u → u < k → q u ≠ r := fun u h4 h5 e => by
        have hbu : bas (u + 1) r := (R.bas' u (by omega) r).2 (.inr e.symm)
        exact hbk (R.innAt (show u + 1 ≤ k by omega) hk (fun w h6 h7 => s4 w (by omega) h7) hbu)
      rw [hfT, hf r hr0.1 hr0.2 hbi, (R.outAt hr0.1 hr0.2 (show S + 1 ≤ k by omega) hk hq h1).2, ← s3]
      exact R.put S (by omega)
  obtain ⟨S, s1, s2, s3, s4⟩ := hS
  have sT := R.st T (by omega)
  have sS := R.st S (by omega)
  rw [t3] at sT
  rw [s3] at sS
  refine yl sT sS (R.eqn T (by omega) T (by omega)) (R.eqn T (by omega) S (by omega)) (hmax _ ⟨T, t1, t2, .inl rfl⟩) (fun v hv hin c => ?_) s4 (fun m hm hj => ?_)
  · have h0 : 0 ≤ v ∧ v < n := by
      rcases hin with rfl | ⟨m, hm, rfl⟩
      · exact (R.rng T (by omega)).1
      · exact (R.rng T (by omega)).2 m hm
    exact R.inb S (by omega) v h0.1 h0.2 hv c
  · -- what is above neither comes nor goes
    have hjn := (R.rng T (by omega)).2 m hm
    have hbj := sT.nb m hm
    have hq : ∀ t, i ≤ t → t < k → q t ≠ m.1 := fun t h1 h2 e => by have := hmax m.1 ⟨t, h1, h2, .inr e⟩; omega
    have hp : ∀ t, i ≤ t → t < k → p t ≠ m.1 := fun t h1 h2 e => by have := hmax m.1 ⟨t, h1, h2, .inl e⟩; omega
    have hbi : ¬ bas i m.1 := fun h => hbj (R.innAt t1 (by omega) (fun u h4 h5 => hp u h4 (by omega)) h)
    rw [(R.outAt hjn.1 hjn.2 t1 (by omega) (fun u h4 h5 => hq u h4 (by omega)) hbi).2, (R.outAt hjn.1 hjn.2 s1 (by omega) (fun u h4 h5 => hq u h4 (by omega)) hbi).2]
def allL : Nat → List (List Nat)
  | 0 => [[]]
  | n + 1 => (allL n).flatMap fun l => [0 :: l, 1 :: l, 2 :: l, 3 :: l]
theorem xE : ∀ n, (allL n).length = 4 ^ n
  | 0 => rfl
  | n + 1 => by
    have h : ∀ l : List (List Nat), (l.flatMap fun l => [0 :: l, 1 :: l, 2 :: l, 3 :: l]).length = 4 * l.length := by
      intro l
      induction l with
      | nil => rfl
      | cons a l ih => simp only [List.flatMap_cons, List.length_append, ih, List.length_cons, List.length_nil]; omega
    show ((allL n).flatMap _).length = _
    rw [h, xE n, Nat.pow_succ]; omega
theorem xB : ∀ {n : Nat} {l : List Nat}, l.length = n → (∀ x ∈ l, x < 4) → l ∈ allL n
  | 0, [], _, _ => List.mem_singleton.2 rfl
  | 0, _ :: _, h, _ => by simp at h
  | n + 1, [], h, _ => by simp at h
  | n + 1, x :: l, h, hx => by
    refine List.mem_flatMap.2 ⟨l, xB (by simpa using h) fun y hy => hx y (List.mem_cons_of_mem _ hy), ?_⟩
    have := hx x (List.mem_cons_self ..)
    have : x = 0 ∨ x = 1 ∨ x = 2 ∨ x = 3 := by omega
    rcases this with rfl | rfl | rfl | rfl <;> simp
open Classical in
noncomputable def cod (eg : Bool → Int → Eg) (f0 : Int → Rat × Rat) (bas : Int → Prop) (f : Int → Rat × Rat) (v : Int) : Nat := if bas v then 0 else if f v = f0 v then 1 else if f v = (eg false v).2 then 2 else 3
theorem Run.vals (R : Run N n eg bas f p q up row) : ∀ k, k ≤ N → ∀ v, 0 ≤ v → v < n → ¬ bas k v → f k v = f 0 v ∨ f k v = (eg false v).2 ∨ f k v = (eg true v).2
  | 0, _, v, _, _, _ => .inl rfl
  | k + 1, hk, v, h0, hn, hb => by
    have hq : v ≠ q k := fun e => hb ((R.bas' k hk v).2 (.inr e))
    by_cases hbk : bas k v
    · have hp : v = p k := Classical.byContradiction fun h => hb ((R.bas' k hk v).2 (.inl ⟨hbk, h⟩))
      subst hp
      rw [R.put k hk]
      cases up k
      · exact .inr (.inl rfl)
      · exact .inr (.inr rfl)
    · rw [R.keep k hk v h0 hn hbk hq]
      exact R.vals k (by omega) v h0 hn hbk
theorem Run.cod_eq (R : Run N n eg bas f p q up row) {i k : Nat} (hi : i ≤ N) (hk : k ≤ N) {v : Int} (h0 : 0 ≤ v) (hn : v < n) (h : cod eg (f 0) (bas i) (f i) v = cod eg (f 0) (bas k) (f k) v) : (bas i v ↔ bas k v) ∧ (¬ bas i v → f i v = f k v) := by
  unfold cod at h
  by_cases b1 : bas i v <;> by_cases b2 : bas k v
  · exact ⟨⟨fun _ => b2, fun _ => b1⟩, fun h => absurd b1 h⟩
  · rw [if_pos b1, if_neg b2] at h
    split at h
    · cases h
    · split at h <;> cases h
  · rw [if_neg b1, if_pos b2] at h
    split at h
    · cases h
    · split at h <;> cases h
  · rw [if_neg b1, if_neg b2] at h
    refine ⟨⟨fun h => absurd h b1, fun h => absurd h b2⟩, fun _ => ?_⟩
    have v1 := R.vals i hi v h0 hn b1
    have v2 := R.vals k hk v h0 hn b2
    by_cases c1 : f i v = f 0 v <;> by_cases c2 : f k v = f 0 v
    · rw [c1, c2]
    · rw [if_pos c1, if_neg c2] at h; split at h <;> cases h
    · rw [if_neg c1, if_pos c2] at h; split at h <;> cases h
    · rw [if_neg c1, if_neg c2] at h
      by_cases d1 : f i v = (eg false v).2 <;> by_cases d2 : f k v = (eg false v).2
      · rw [d1, d2]
      · rw [if_pos d1, if_neg d2] at h; cases h
      · rw [if_neg d1, if_pos d2] at h; cases h
      · rw [(v1.resolve_left c1).resolve_left d1, (v2.resolve_left c2).resolve_left d2]
theorem Run.bound {m : Nat} (R : Run N (m : Int) eg bas f p q up row) : N < 4 ^ m := by
  refine Classical.byContradiction fun hN => ?_
  have hN : 4 ^ m ≤ N := by omega
  let C : Nat → List Nat := fun k => (List.range m).map fun (v : Nat) => cod eg (f 0) (bas k) (f k) (v : Int)
  have hC : ∀ k, C k ∈ allL m := fun k => xB (by simp [C]) fun x hx => by
    obtain ⟨v, _, rfl⟩ := List.mem_map.1 hx
    unfold cod
    split
    · omega
    · split
      · omega
      · split <;> omega
  have hdup : ¬ ((List.range (N + 1)).map C).Nodup := fun hn => by
    have := List.Nodup.length_le_of_subset hn (l₂ := allL m) fun x hx => by
      obtain ⟨k, _, rfl⟩ := List.mem_map.1 hx
      exact hC k
    rw [xE] at this
    simp at this
    omega
  have hpair : ∃ i k, i < k ∧ k ≤ N ∧ C i = C k := by
    refine Classical.byContradiction fun hno => hdup ?_
    refine List.pairwise_map.2 ((List.pairwise_lt_range).imp_of_mem fun {a b} ha hb hab => ?_)
    intro e
    have := List.mem_range.1 hb
    exact hno ⟨a, b, hab, by omega, e⟩
  obtain ⟨i, k, hik, hk, he⟩ := hpair
  have hv : ∀ v : Int, 0 ≤ v → v < (m : Int) → cod eg (f 0) (bas i) (f i) v = cod eg (f 0) (bas k) (f k) v := by
    intro v h0 hn
    obtain ⟨w, rfl⟩ : ∃ w : Nat, v = (w : Int) := ⟨v.toNat, by omega⟩
    exact List.map_inj_left.1 he w (List.mem_range.2 (by omega))
  exact R.no_cycle hik hk (fun v h0 hn => (R.cod_eq (by omega) hk h0 hn (hv v h0 hn)).1) fun v h0 hn => (R.cod_eq (by omega) hk h0 hn (hv v h0 hn)).2
end
end Go.Sh

namespace Go.Sh
open Go Go.Lift
section
variable {P : Int → Prop} {p : Rat × PL} {v u : Int} {t t' : TT}
theorem tL {f : Int → Rat} (h : RowG P p) (hk : ak p.2 v ≠ 0) (hu : P u) (u0 : 0 ≤ u) : valL f (pivS v u p).2 = f v ↔ valL f p.2 = f u := by
  rw [← vP_0 (tG (v := v) h hu u0).c]
  unfold pivS
  rw [zS, acg, vP_0 (p := (p.1, wo v p.2)) h.c, ki h.rt.srt]
  unfold vP
  simp only [valL]
  generalize ak p.2 v = k at *
  generalize valL f p.2 = a
  have : 1 / k * k = 1 := by grind
  constructor
  · intro h1
    have h2 : k * (1 / k * (f u - a)) = 0 := by grind
    grind
  · intro h1
    grind
def Sol (t : TT) (f : Int → Rat) : Prop := ∀ j, j < t.ps.length → valL f (psA t j).2 = f (at0 t.bs j)
theorem xg {i : Nat} (g : RG t) (hi : i < t.ps.length) (j : Nat) : at0 (pivT t i v).bs j = if j = i then v else at0 t.bs j := zY (by have := g.lb; omega)
theorem Sol.piv {i : Nat} (g : RG t) (hi : i < t.ps.length) (hk : ak (psA t i).2 v ≠ 0) (f : Int → Rat) : Sol (pivT t i v) f ↔ Sol t f := by
  have hri := g.row i hi
  have hu := g.rng i hi
  have hP : RowG (fun w => w < (t.vs.length : Int)) (psA t i) := ⟨hri.rt, hri.c, fun m hm => (hri.vars m hm).1⟩
  have key := tL (f := f) (v := v) hP hk hu.2 hu.1
  have other : valL f (pivS v (at0 t.bs i) (psA t i)).2 = f v → ∀ j, j < t.ps.length → j ≠ i → (valL f (psA (pivT t i v) j).2 = f (at0 (pivT t i v).bs j) ↔ valL f (psA t j).2 = f (at0 t.bs j)) := by
    intro hs j hj hji
    have hr := g.row j hj
    rw [mO hi hj, xg g hi, if_neg hji, if_neg hji, xp (P := fun w => w < (t.vs.length : Int)) ⟨hr.rt, hr.c, fun m hm => (hr.vars m hm).1⟩ (tG hP hu.2 hu.1) hs]
  constructor
  · intro h j hj
    have h1 := h i (by rw [cz]; exact hi)
    rw [mO hi hi, xg g hi, if_pos rfl, if_pos rfl] at h1
    by_cases hji : j = i
    · subst hji; exact key.1 h1
    · exact (other h1 j hj hji).1 (h j (by rw [cz]; exact hj))
  · intro h j hj
    rw [cz] at hj
    have h1 := key.2 (h i hi)
    by_cases hji : j = i
    · subst hji
      rw [mO hi hi, xg g hi, if_pos rfl, if_pos rfl]
      exact h1
    · exact (other h1 j hj hji).2 (h j hj)
def Bas (t : TT) (w : Int) : Prop := ∃ k, k < t.ps.length ∧ at0 t.bs k = w
def egT (t : TT) (c : Bool) (v : Int) : Eg := edA (sd t c) v
structure NB (t : TT) : Prop where
  inb : ∀ w, 0 ≤ w → w < (t.vs.length : Int) → ¬ Bas t w → ∀ c, byd c (egT t c w) (atD t.vs w) = false
  cons : ∀ w c, (egT t c w).1 ≠ 0 → byd (!c) (egT t (!c) w) (egT t c w).2 = false
structure Mv (t t' : TT) (i : Nat) (up : Bool) (m : Int × Rat) : Prop where
  w : Wst t i up
  f : ∃ j, ∃ F : Fst t i up j, m = (psA t i).2[j]'F.lt
  e : t' = pivT (updT t m.1 (goD t i up m)) i m.1
theorem abT {d : Rat × Rat} : (updT t v d).ps = t.ps := rfl
theorem acZ {d : Rat × Rat} : (updT t v d).bs = t.bs := rfl
theorem Mv.facts {i : Nat} {up : Bool} {m : Int × Rat} (M : Mv t t' i up m) (g : RG t) :
    m ∈ (psA t i).2 ∧ (0 ≤ m.1 ∧ m.1 < (t.vs.length : Int)) ∧ ¬ Bas t m.1 ∧ rowI t.bs m.1 < 0 ∧ m.2 ≠ 0 ∧ ak (psA t i).2 m.1 = m.2 ∧ RG (updT t m.1 (goD t i up m)) ∧ ak (psA (updT t m.1 (goD t i up m)) i).2 m.1 ≠ 0 ∧ RG t' := by
  obtain ⟨j, F, hm⟩ := M.f
  have hmem : m ∈ (psA t i).2 := hm ▸ List.getElem_mem _
  have hr := g.row i M.w.lt
  have hv := hr.vars m hmem
  have h0 := hr.rt.nn m hmem
  have hz := hr.rt.nz m hmem
  have hc : ak (psA t i).2 m.1 = m.2 := fk hr.rt.srt hmem
  have hrow : rowI t.bs m.1 < 0 := g.no hv.2
  have g1 := g.updT (d := goD t i up m) h0 hv.1 hrow
  have hk : ak (psA (updT t m.1 (goD t i up m)) i).2 m.1 ≠ 0 := by
    show ak (psA t i).2 m.1 ≠ 0
    rw [hc]; exact hz
  refine ⟨hmem, ⟨h0, hv.1⟩, fun ⟨k, hk, e⟩ => hv.2 k hk e.symm, hrow, hz, hc, g1, hk, ?_⟩
  rw [M.e]
  exact g1.pivT M.w.lt hk
theorem mJ {d : Rat × Rat} (g : RG t) (h0 : 0 ≤ v) (h1 : v < (t.vs.length : Int)) (h2 : rowI t.bs v < 0) {w : Int} (hw : 0 ≤ w) (hb : ¬ Bas t w) : atD (updT t v d).vs w = if w = v then d else atD t.vs w := by
  rw [← fV (g.upd h0 h1 h2), o8, qA fun k h3 h4 => ?_, ← o8]
  · split
    · rename_i e
      subst e
      rw [jM (by omega), if_pos rfl]
    · rename_i e
      exact sx h0 hw e
  · have h5 : k < t.ps.length := by omega
    have := g.rng k h5
    have : at0 t.bs k ≠ w := fun e => hb ⟨k, h5, e⟩
    omega
theorem jg {f f' : Int → Rat} {l : PL} (hs : Srt l) {q : Int} (h : ∀ m ∈ l, m.1 ≠ q → f' m.1 = f m.1) : valL f' l = valL f l + ak l q * (f' q - f q) := by
  have h1 := ki (f := f) (v := q) hs
  have h2 := ki (f := f') (v := q) hs
  have h3 : valL f' (wo q l) = valL f (wo q l) := jI fun m hm => by
    obtain ⟨h4, h5⟩ := List.mem_filter.1 hm
    exact h m h4 (by simpa using h5)
  grind
structure MvF (t t' : TT) (i : Nat) (up : Bool) (m : Int × Rat) : Prop where
  g : RG t'
  np : t'.ps.length = t.ps.length
  nv : t'.vs.length = t.vs.length
  eg : ∀ c w, egT t' c w = egT t c w
  bas : ∀ w, Bas t' w ↔ (Bas t w ∧ w ≠ at0 t.bs i) ∨ w = m.1
  keep : ∀ w, 0 ≤ w → ¬ Bas t w → w ≠ m.1 → atD t'.vs w = atD t.vs w
  put : atD t'.vs (at0 t.bs i) = (egT t up (at0 t.bs i)).2
  sol : ∀ f, Sol t' f ↔ Sol t f
theorem Mv.step {i : Nat} {up : Bool} {m : Int × Rat} (M : Mv t t' i up m) (g : RG t) : MvF t t' i up m := by
  obtain ⟨hmem, hrng, hnb, hrow, hz, hc, g1, hk, g2⟩ := M.facts g
  have hi := M.w.lt
  have hvs : t'.vs = (updT t m.1 (goD t i up m)).vs := by rw [M.e]; rfl
  have hoth : ∀ w, 0 ≤ w → ¬ Bas t w → atD t'.vs w = if w = m.1 then goD t i up m else atD t.vs w := fun w hw hb => by
    rw [hvs]; exact mJ g hrng.1 hrng.2 hrow hw hb
  have hl : (updT t m.1 (goD t i up m)).vs.length = t.vs.length := by
    rw [← fV (g.upd hrng.1 hrng.2 hrow), iS]; simp
  refine ⟨g2, by rw [M.e, cz]; rfl, by rw [hvs, hl], fun c w => by rw [M.e]; cases c <;> rfl, fun w => ?_, fun w hw hb hne => by rw [hoth w hw hb, if_neg hne], ?_, fun f => ?_⟩
  · have e1 : ∀ j, at0 t'.bs j = if j = i then m.1 else at0 t.bs j := fun j => by rw [M.e]; exact xg g1 hi j
    have e2 : t'.ps.length = t.ps.length := by rw [M.e, cz]; rfl
    constructor
    · rintro ⟨k, hk, rfl⟩
      rw [e2] at hk
      rw [e1]
      by_cases hki : k = i
      · rw [if_pos hki]; exact .inr rfl
      · rw [if_neg hki]
        exact .inl ⟨⟨k, hk, rfl⟩, g.dis k i hk hi hki⟩
    · rintro (⟨⟨k, hk, rfl⟩, hne⟩ | rfl)
      · have hki : k ≠ i := fun e => hne (by rw [e])
        exact ⟨k, by rw [e2]; exact hk, by rw [e1, if_neg hki]⟩
      · exact ⟨i, by rw [e2]; exact hi, by rw [e1, if_pos rfl]⟩
  · have hv := g1.val i hi
    have hv0 := g.val i hi
    have hsrt := (g.row i hi).rt.srt
    have hrows : ∀ x ∈ (psA t i).2, 0 ≤ x.1 ∧ ¬ Bas t x.1 := fun x hx => ⟨(g.row i hi).rt.nn x hx, fun ⟨k, hk, e⟩ => ((g.row i hi).vars x hx).2 k hk e.symm⟩
    have hq := hoth m.1 hrng.1 hnb
    rw [if_pos rfl] at hq
    have e1 : valL (fun w => (atD t'.vs w).1) (psA t i).2 = valL (fun w => (atD t.vs w).1) (psA t i).2 + m.2 * ((goD t i up m).1 - (atD t.vs m.1).1) := by
      rw [jg (f := fun w => (atD t.vs w).1) (q := m.1) hsrt fun x hx hne => ?_, hc, hq]
      rw [hoth x.1 (hrows x hx).1 (hrows x hx).2, if_neg hne]
    have e2 : valL (fun w => (atD t'.vs w).2) (psA t i).2 = valL (fun w => (atD t.vs w).2) (psA t i).2 + m.2 * ((goD t i up m).2 - (atD t.vs m.1).2) := by
      rw [jg (f := fun w => (atD t.vs w).2) (q := m.1) hsrt fun x hx hne => ?_, hc, hq]
      rw [hoth x.1 (hrows x hx).1 (hrows x hx).2, if_neg hne]
    have hv' : valV (atD t'.vs) (psA t i).2 = atD t'.vs (at0 t.bs i) := by rw [hvs]; exact hv
    rw [← hv']
    have z1 : valL (fun w => (atD t.vs w).1) (psA t i).2 = (atD t.vs (at0 t.bs i)).1 := congrArg Prod.fst hv0
    have z2 : valL (fun w => (atD t.vs w).2) (psA t i).2 = (atD t.vs (at0 t.bs i)).2 := congrArg Prod.snd hv0
    unfold valV
    rw [e1, e2, z1, z2]
    unfold goD addD scD subD egT
    generalize edA (sd t up) (at0 t.bs i) = e
    obtain ⟨e0, ea, eb⟩ := e
    generalize atD t.vs (at0 t.bs i) = x
    generalize atD t.vs m.1 = y
    generalize m.2 = a at *
    have ha : a * (1 / a) = 1 := by grind
    dsimp only
    congr 1 <;> grind
  · rw [M.e]
    exact Sol.piv g1 hi hk f
theorem xA {c : Bool} {e : Eg} : byd c e e.2 = false := by
  cases h : byd c e e.2
  · rfl
  · have := (zx.1 h).2
    cases c <;> simp [ltV] at this <;> grind
theorem Mv.nb {i : Nat} {up : Bool} {m : Int × Rat} (M : Mv t t' i up m) (g : RG t) (n : NB t) : NB t' := by
  have s := M.step g
  refine ⟨fun w h0 h1 hb c => ?_, fun w c h => by rw [s.eg, s.eg]; rw [s.eg] at h; exact n.cons w c h⟩
  rw [s.eg]
  rw [s.nv] at h1
  have hne : w ≠ m.1 := fun e => hb ((s.bas w).2 (.inr e))
  by_cases hbt : Bas t w
  · have hp : w = at0 t.bs i := Classical.byContradiction fun h => hb ((s.bas w).2 (.inl ⟨hbt, h⟩))
    subst hp
    rw [s.put]
    by_cases hc : c = up
    · subst hc; exact xA
    · have : c = !up := by cases c <;> cases up <;> simp_all
      subst this
      have hv := zx.1 M.w.v
      exact n.cons _ up hv.1
  · rw [s.keep w h0 hbt hne]
    exact n.inb w h0 h1 hbt c
theorem zJ {N : Nat} {T : Nat → TT} {I : Nat → Nat} {U : Nat → Bool} {M : Nat → Int × Rat} (g : RG (T 0)) (n : NB (T 0)) (h : ∀ k, k < N → Mv (T k) (T (k + 1)) (I k) (U k) (M k)) : N < 4 ^ (T 0).vs.length := by
  have G : ∀ k, k ≤ N → RG (T k) ∧ NB (T k) ∧ (T k).vs.length = (T 0).vs.length ∧ (∀ c w, egT (T k) c w = egT (T 0) c w) ∧ ∀ f, Sol (T k) f ↔ Sol (T 0) f := by
    intro k
    induction k with
    | zero => intro _; exact ⟨g, n, rfl, fun _ _ => rfl, fun _ => Iff.rfl⟩
    | succ k ih =>
      intro hk
      obtain ⟨h1, h2, h3, h4, h5⟩ := ih (by omega)
      have s := (h k (by omega)).step h1
      exact ⟨s.g, (h k (by omega)).nb h1 h2, s.nv.trans h3, fun c w => (s.eg c w).trans (h4 c w), fun f => (s.sol f).trans (h5 f)⟩
  refine Run.bound (eg := egT (T 0)) (bas := fun k => Bas (T k)) (f := fun k => atD (T k).vs) (p := fun k => at0 (T k).bs (I k)) (q := fun k => (M k).1) (up := U) (row := fun k => (psA (T k) (I k)).2) ⟨fun k hk => ?_, fun k hk m hm => ?_, fun k hk => ?_, fun k hk v => ?_, fun k hk v h0 hn hb hv => ?_, fun k hk => ?_, fun k hk v h0 hn hb c => ?_⟩
  · obtain ⟨g1, n1, h3, h4, h5⟩ := G k (by omega)
    have m := h k hk
    obtain ⟨hmem, hrng, hnb, hrow, hz, hc, _⟩ := m.facts g1
    obtain ⟨j, F, hm⟩ := m.f
    have hr := g1.row (I k) m.w.lt
    refine ⟨⟨I k, m.w.lt, rfl⟩, ?_, ?_, ⟨(M k).2, hmem⟩, fun x hx e => ?_, fun x hx e => ?_, fun x hx ⟨l, hl, e⟩ => (hr.vars x hx).2 l hl e.symm, hr.rt.nz⟩
    · rw [← h4]; exact m.w.v
    · rintro w c ⟨l, hl, rfl⟩ hv
      rw [← h4] at hv
      exact m.w.min l c hl hv
    · have : x = M k := by
        have e2 : x.2 = (M k).2 := by rw [← fk hr.rt.srt hx, e, hc]
        exact Prod.ext e e2
      subst this
      rw [← h4]
      have := F.ok
      rw [← hm] at this
      exact this
    · obtain ⟨l, hl, rfl⟩ := List.mem_iff_getElem.1 hx
      have hlj : l < j := by
        have hs := List.pairwise_iff_getElem.1 hr.rt.srt
        rcases Nat.lt_trichotomy l j with h | h | h
        · exact h
        · subst h; rw [hm] at e; omega
        · have := hs j l F.lt hl h
          rw [hm] at e; omega
      rw [← h4]
      exact F.min l hlj
  · obtain ⟨g1, _, _, _, h5⟩ := G k (by omega)
    obtain ⟨g2, _, _, _, h6⟩ := G m (by omega)
    have s1 : Sol (T m) fun w => (atD (T m).vs w).1 := fun j hj => congrArg Prod.fst (g2.val j hj)
    have s2 : Sol (T m) fun w => (atD (T m).vs w).2 := fun j hj => congrArg Prod.snd (g2.val j hj)
    have t1 := (h5 _).2 ((h6 _).1 s1) (I k) (h k hk).w.lt
    have t2 := (h5 _).2 ((h6 _).1 s2) (I k) (h k hk).w.lt
    exact Prod.ext t1 t2
  · obtain ⟨g1, _, h3, _⟩ := G k (by omega)
    have hr := g1.row (I k) (h k hk).w.lt
    rw [← h3]
    exact ⟨g1.rng _ (h k hk).w.lt, fun x hx => ⟨hr.rt.nn x hx, (hr.vars x hx).1⟩⟩
  · exact ((h k hk).step (G k (by omega)).1).bas v
  · exact ((h k hk).step (G k (by omega)).1).keep v h0 hb hv
  · rw [← (G k (by omega)).2.2.2.1]
    exact ((h k hk).step (G k (by omega)).1).put
  · obtain ⟨g1, n1, h3, h4, _⟩ := G k hk
    rw [← h4]
    exact n1.inb v h0 (by rw [h3]; exact hn) hb c
end
end Go.Sh

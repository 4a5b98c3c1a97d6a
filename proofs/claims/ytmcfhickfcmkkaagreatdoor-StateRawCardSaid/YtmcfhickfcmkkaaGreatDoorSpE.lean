/-
  Laws that the proof of this claim's statement leans on, each proved under the conditions that it states.
-/
import Derived.Test.YtmcfhickfcmkkaaGreatDoorSpL
set_option linter.unusedVariables false
set_option linter.unusedSimpArgs false
namespace Go.Sh
open Go Go.Lift
abbrev X3 := Bool × Sl × Sl
abbrev X6 := Bool × Sl × Sl × Bool × Sl × Sl
abbrev dA (x : X6) : X3 := (x.1, x.2.1, x.2.2.1)
abbrev dB (x : X6) : X3 := (x.2.2.2.1, x.2.2.2.2.1, x.2.2.2.2.2)
abbrev d0 : X6 := (false, Sl.nil, Sl.nil, false, Sl.nil, Sl.nil)
structure DQ (h : Heap) (x : X6) (p : Rat × Rat) : Prop where
  a : RQ h (dA x) p.1
  b : RQ h (dB x) p.2
structure DF (k : Nat) (h : Heap) (x : X6) (p : Rat × Rat) : Prop where
  a : RF k h (dA x) p.1
  b : RF k h (dB x) p.2
structure DD (h : Heap) (x : X6) (p : Rat × Rat) : Prop where
  a : RD h (dA x) p.1
  b : RD h (dB x) p.2
def Fr6 (h : Heap) (x : X6) : Prop := Fr h (dA x) ∧ Fr h (dB x)
section
variable {h h' : Heap} {x : X6} {p : Rat × Rat} {k : Nat}
theorem DQ.ext (hx : DQ h x p) (e : Ext h h') : DQ h' x p := ⟨hx.a.ext e, hx.b.ext e⟩
theorem DF.ext (hx : DF k h x p) (e : Ext h h') : DF k h' x p := ⟨hx.a.ext e, hx.b.ext e⟩
theorem DF.keep (hx : DF k h x p) (e : Keep (some k) h h') : DF k h' x p := ⟨hx.a.keep e, hx.b.keep e⟩
theorem DF.dq (hx : DF k h x p) : DQ h x p := ⟨hx.a.rq, hx.b.rq⟩
theorem DQ.df (hx : DQ h x p) (e : Ext h h') (ha : h.size ≤ k) : DF k h' x p := ⟨hx.a.rf e ha, hx.b.rf e ha⟩
theorem DQ.zero : DQ h d0 (0, 0) := ⟨RQ.zero, RQ.zero⟩
theorem DF.zero : DF k h d0 (0, 0) := ⟨RF.zero, RF.zero⟩
end
def szD (p : Rat × Rat) : Nat := max (szQ p.1) (szQ p.2)
def valD (ov : Bool) (p : Rat × Rat) : Rat × Rat := if ov then (0, 0) else p
def addD (p q : Rat × Rat) : Rat × Rat := (p.1 + q.1, p.2 + q.2)
def scD (k : Rat) (p : Rat × Rat) : Rat × Rat := (k * p.1, k * p.2)
def cmpD (p q : Rat × Rat) : Int := if cmpR p.1 q.1 = 0 then cmpR p.2 q.2 else cmpR p.1 q.1
section
variable {a : Addr} {lim : Nat} {ov : Bool} {h : Heap}
def amD (f : Option Addr → X3 → X3 → Heap → (X3 → Heap → Prop) → Prop) (b : Option Addr) (x0 y : X6) (h : Heap) (Q : X6 → Heap → Prop) : Prop :=
  mem h fun h0 =>
  seq (fun (K0 : X6 → Heap → Prop) =>
   mem h0 fun h0u2 =>
   f b (x0.1, x0.2.1, x0.2.2.1) (y.1, y.2.1, y.2.2.1) h0u2 fun v_3 h0u9 =>
   mem h0u9 fun h0u10 =>
   f b (x0.2.2.2.1, x0.2.2.2.2.1, x0.2.2.2.2.2) (y.2.2.2.1, y.2.2.2.2.1, y.2.2.2.2.2) h0u10 fun v_4 h0u11 =>
   mem h0u11 fun h0u12 =>
   K0 (v_3.1, v_3.2.1, v_3.2.2, v_4.1, v_4.2.1, v_4.2.2) h0u12
  ) (fun t0 h0u1 =>
   gt b h0u1 fun v_5 h0u13 =>
   iteB v_5 (
    Q (false, Sl.nil, Sl.nil, false, Sl.nil, Sl.nil) h0u13
   ) (
    Q (t0.1, t0.2.1, t0.2.2.1, t0.2.2.2.1, t0.2.2.2.2.1, t0.2.2.2.2.2) h0u13
   )
  )
theorem acG {f : Option Addr → X3 → X3 → Heap → (X3 → Heap → Prop) → Prop} {op : Rat → Rat → Rat} {x y : X6} {p q : Rat × Rat} {Q : X6 → Heap → Prop}
    (hf : ∀ {ov : Bool} {h : Heap} {x y : X3} {p q : Rat} {Q : X3 → Heap → Prop}, TB a.block h → Bench h a lim ov → RQ h x p → RQ h y q → szQ p + szQ q ≤ 3000 →
      (∀ r h', Bench h' a lim (ov || decide (lim < szQ (op p q))) → Keep (some a.block) h h' → RF a.block h' r (val' (ov || decide (lim < szQ (op p q))) (op p q)) → Fr h r → Q r h') → f (some a) x y h Q)
    (ht : TB a.block h) (hb : Bench h a lim ov) (hx : DF a.block h x p) (hy : DF a.block h y q) (hs : szD p + szD q ≤ 3000)
    (K : ∀ r h', Bench h' a lim (ov || decide (lim < szD (op p.1 q.1, op p.2 q.2))) → Keep (some a.block) h h' → DF a.block h' r (valD (ov || decide (lim < szD (op p.1 q.1, op p.2 q.2))) (op p.1 q.1, op p.2 q.2)) → Fr6 h r → Q r h') : amD f (some a) x y h Q := by
  unfold szD at hs
  refine ak fun h1 e1 => ?_
  have hov : (ov || decide (lim < szQ (op p.1 q.1)) || decide (lim < szQ (op p.2 q.2))) = (ov || decide (lim < szD (op p.1 q.1, op p.2 q.2))) := by
    rw [Bool.or_assoc]; congr 1
    unfold szD
    rw [Bool.eq_iff_iff]; simp; omega
  refine seq.cut (fun t h2 => Bench h2 a lim (ov || decide (lim < szD (op p.1 q.1, op p.2 q.2))) ∧ Keep (some a.block) h h2 ∧
    ((ov || decide (lim < szD (op p.1 q.1, op p.2 q.2))) = false → DF a.block h2 t (op p.1 q.1, op p.2 q.2)) ∧ Fr6 h t) ?_ ?_
  · refine ak fun h2 e2 => ?_
    have e12 := e1.trans e2
    refine hf (ht.ext e12) (hb.ext e12) (hx.ext e12).a.rq (hy.ext e12).a.rq (by omega) fun r1 h3 hb3 k3 hr1 fr1 => ?_
    refine ak fun h4 e4 => ?_
    have k4 : Keep (some a.block) h h4 := ((Keep.of_ext e12).trans k3).trans (Keep.of_ext e4)
    refine hf (ht.keep k4) (hb3.ext e4) (hx.keep k4).b.rq (hy.keep k4).b.rq (by omega) fun r2 h5 hb5 k5 hr2 fr2 => ak fun h6 e6 => ?_
    rw [hov] at hb5 hr2
    have k6 := (k4.trans k5).trans (Keep.of_ext e6)
    refine ⟨hb5.ext e6, k6, fun hno => ⟨?_, ?_⟩, fr1.mono e12.size, fr2.mono k4.size⟩
    · have h1 : (ov || decide (lim < szQ (op p.1 q.1))) = false := by
        rw [← hov] at hno
        simp only [Bool.or_eq_false_iff] at hno ⊢
        exact hno.1
      rw [h1, aaL] at hr1
      exact (((hr1.ext e4).keep k5).ext e6)
    · rw [hno, aaL] at hr2
      exact hr2.ext e6
  · rintro t h2 ⟨hb2, k2, hd, fr⟩
    refine adi hb2 ⟨fun ho => ?_, fun ho => ?_⟩
    · refine K _ h2 hb2 k2 ?_ ⟨Fr.nil, Fr.nil⟩
      rw [ho]; exact DF.zero
    · refine K _ h2 hb2 k2 ?_ fr
      rw [ho]; exact hd ho
variable {x y : X6} {p q : Rat × Rat} {Q : X6 → Heap → Prop}
theorem ahK (ht : TB a.block h) (hb : Bench h a lim ov) (hx : DF a.block h x p) (hy : DF a.block h y q) (hs : szD p + szD q ≤ 3000)
    (K : ∀ r h', Bench h' a lim (ov || decide (lim < szD (addD p q))) → Keep (some a.block) h h' → DF a.block h' r (valD (ov || decide (lim < szD (addD p q))) (addD p q)) → Fr6 h r → Q r h') : xT (some a) x y h Q :=
  ak fun h1 e1 => by
    have := acG (f := oY) (op := fun u v => u + v) (Q := Q) (fun a b c d e f => ai5 a b c d e f) (ht.ext e1) (hb.ext e1) (hx.ext e1) (hy.ext e1) hs (fun r h' h1 h2 h3 h4 => K r h' h1 ((Keep.of_ext e1).trans h2) h3 ⟨h4.1.mono e1.size, h4.2.mono e1.size⟩)
    exact this
theorem afc {k : X3} {c : Rat} (ht : TB a.block h) (hb : Bench h a lim ov) (hk : RF a.block h k c) (hx : DF a.block h x p) (hs : szQ c + szD p ≤ 3000)
    (K : ∀ r h', Bench h' a lim (ov || decide (lim < szD (scD c p))) → Keep (some a.block) h h' → DF a.block h' r (valD (ov || decide (lim < szD (scD c p))) (scD c p)) → Fr6 h r → Q r h') : rz (some a) k x h Q :=
  ak fun h1 e1 => by
    have hk2 : DF a.block h1 (k.1, k.2.1, k.2.2, k.1, k.2.1, k.2.2) (c, c) := ⟨hk.ext e1, hk.ext e1⟩
    have := acG (f := pO) (op := fun u v => u * v) (Q := Q) (fun a b c d e f => aia a b c d e f) (ht.ext e1) (hb.ext e1) hk2 (hx.ext e1) (by unfold szD at *; simp; omega) (fun r h' h1 h2 h3 h4 => K r h' h1 ((Keep.of_ext e1).trans h2) h3 ⟨h4.1.mono e1.size, h4.2.mono e1.size⟩)
    exact this
end
section
variable {h : Heap} {x y : X6} {p q : Rat × Rat}
theorem adL {Q : Int → Heap → Prop} (hx : DQ h x p) (hy : DQ h y q) (hs : szD p + szD q ≤ 3000) (h0 : 0 < h.size) (K : ∀ h', Ext h h' → Q (cmpD p q) h') : te x y h Q := by
  unfold szD at hs
  refine ak fun h1 e1 => acy (hx.ext e1).a (hy.ext e1).a (by omega) (by have := e1.size; omega) fun h2 e2 => ?_
  have e12 := e1.trans e2
  unfold cmpD at K
  refine ⟨fun hn => ?_, fun hn => ?_⟩
  · simp only [bne_iff_ne, ne_eq] at hn
    rw [if_neg hn] at K
    exact K h2 e12
  · simp only [bne_eq_false_iff_eq] at hn
    rw [if_pos hn] at K
    exact acy (hx.ext e12).b (hy.ext e12).b (by omega) (by have := e12.size; omega) fun h3 e3 => K h3 (e12.trans e3)
end
end Go.Sh

namespace Go.Sh
open Go Go.Lift
def Raw3 (h : Heap) (x : X3) : Prop := ∃ xs ys, XR h x xs ys
def Raw6 (h : Heap) (x : X6) : Prop := Raw3 h (dA x) ∧ Raw3 h (dB x)
def Sm (h : Heap) (x : X6) : Prop := ∃ p, DQ h x p ∧ szD p ≤ 6
theorem aii {cs : List Value} {h : Heap} {k : Addr → Heap → Prop} (K : ∀ a h', cells? h' a cs.length 0 = some cs → a.block = h.size → Ext h h' → k a h') : new cs h k := by
  intro T
  refine K _ _ ?_ rfl (Ext.push _ _)
  rw [ahH (n := cs.length) (by omega) (Nat.le_refl _)]
  simp
end Go.Sh

namespace Go.Sh
open Go Go.Lift
end Go.Sh

namespace Go.Sh
open Go Go.Lift
end Go.Sh

namespace Go.Sh
open Go Go.Lift
structure BB (h0 : Heap) (a : Addr) (lim : Nat) (h : Heap) : Prop where
  tab : Tab h0
  bench : Bench h a lim false
  ext : Ext h0 h
  old : h0.size ≤ a.block
section
variable {h0 h : Heap} {a : Addr} {lim : Nat} {x y : X6} {p q : Rat × Rat} {Q : X6 → Heap → Prop}
end
end Go.Sh

namespace Go.Sh
open Go Go.Lift
abbrev One := { v : Value // one v = true }
def Sl.sc (sz : Nat) (s : Sl) : Sl := ⟨s.a, s.len * sz, s.cap * sz⟩
theorem Sl.sc_blk {sz : Nat} {s : Sl} : (Sl.sc sz s).blk = s.blk := rfl
theorem aa0 {sz bytes : Nat} (hsz : 0 < sz) {s x : Sl} {h : Heap} {k : Sl → Heap → Prop} (hb : (s.len + x.len) * bytes ≤ 2 ^ 46)
    (H : aP 1 0 (Sl.sc sz s) (Sl.sc sz x) h fun s' h' => ∀ s'', Sl.sc sz s'' = s' → k s'' h') : aP sz bytes s x h k := by
  obtain ⟨vs, h1, h2, _, h4, h5⟩ := H
  simp only [Sl.sc, Nat.mul_one] at h1 h4 h5
  refine ⟨vs, h1, h2, hb, fun hf => ?_, fun hg => ?_⟩
  · have h6 := h4 (by rw [← Nat.add_mul]; exact Nat.mul_le_mul_right _ hf)
    cases ha : s.a with
    | none =>
      rw [ha] at h6
      exact h6 _ (by simp [Sl.sc, Nat.add_mul])
    | some a =>
      rw [ha] at h6
      exact ⟨h6.1, h6.2 _ (by simp [Sl.sc, Nat.add_mul])⟩
  · obtain ⟨old, h6, h7⟩ := h5 (by rw [← Nat.add_mul]; exact Nat.mul_lt_mul_of_pos_right hg hsz)
    refine ⟨old, h6, fun cap T rest hc hr => ?_⟩
    exact h7 (cap * sz) T rest (by rw [← Nat.add_mul]; exact Nat.mul_le_mul_right _ hc) (by rw [hr, Nat.sub_mul, Nat.add_mul]) _ (by simp [Sl.sc, Nat.add_mul])
def flat {α : Type} (toC : α → List Value) (xs : List α) : List Value := (xs.map toC).flatten
theorem xq {α : Type} {toC : α → List Value} {xs ys : List α} : flat toC (xs ++ ys) = flat toC xs ++ flat toC ys := by simp [flat]
theorem nr {α : Type} {toC : α → List Value} {sz : Nat} (hsz : ∀ x, (toC x).length = sz) (xs : List α) : (flat toC xs).length = xs.length * sz := by
  induction xs with
  | nil => simp [flat]
  | cons x xs ih => simp [flat] at ih ⊢; rw [ih, hsz, Nat.add_mul]; omega
theorem af9 {α : Type} {toC : α → List Value} {sz : Nat} (hsz : ∀ x, (toC x).length = sz) : ∀ (xs : List α) (i : Nat) (hi : i < xs.length) (j : Nat) (hj : j < sz), (flat toC xs)[i * sz + j]? = (toC xs[i])[j]? := by
  intro xs
  induction xs with
  | nil => intro i hi; simp at hi
  | cons x xs ih =>
    intro i hi j hj
    have e : flat toC (x :: xs) = toC x ++ flat toC xs := by simp [flat]
    rw [e]
    cases i with
    | zero => rw [List.getElem?_append_left (by rw [hsz]; omega)]; simp
    | succ i =>
      rw [List.getElem?_append_right (by rw [hsz, Nat.add_mul]; omega), hsz]
      have := ih i (by simpa using hi) j hj
      rw [show (i + 1) * sz + j - sz = i * sz + j by rw [Nat.add_mul]; omega]
      simpa using this
structure OwnS {α : Type} (toC : α → List Value) (sz B : Nat) (h : Heap) (s : Sl) (xs : List α) : Prop where
  len : s.len = xs.length
  own : ∃ ys : List One, flat toC xs = ys.map Subtype.val ∧ Own (Subtype.val : One → Value) B h (Sl.sc sz s) ys
theorem ad5 {l : List Value} (h : bT l = true) : ∃ ys : List One, l = ys.map Subtype.val := by
  induction l with
  | nil => exact ⟨[], rfl⟩
  | cons v l ih =>
    simp only [bT, List.all_cons, Bool.and_eq_true] at h
    obtain ⟨ys, rfl⟩ := ih h.2
    exact ⟨⟨v, h.1⟩ :: ys, rfl⟩
section
variable {α : Type} {toC : α → List Value} {sz B : Nat} {h h' : Heap} {s : Sl} {xs : List α}
theorem OwnS.keep (ho : OwnS toC sz B h s xs) {o : Option Nat} (k : Keep o h h') (hne : ∀ b, s.blk = some b → some b ≠ o) : OwnS toC sz B h' s xs := by
  obtain ⟨hl, ys, h1, h2⟩ := ho
  exact ⟨hl, ys, h1, h2.keep k hne⟩
theorem OwnS.lt (ho : OwnS toC sz B h s xs) {b : Nat} (hb : s.blk = some b) : B ≤ b ∧ b < h.size := by
  obtain ⟨hl, ys, h1, h2⟩ := ho
  exact h2.lt hb
theorem OwnS.rs (ho : OwnS toC sz B h s xs) (hsz : ∀ x, (toC x).length = sz) (h0 : 0 < sz) : RS toC sz h s xs := by
  obtain ⟨hl, ys, h1, h2⟩ := ho
  have hlen := congrArg List.length h1
  rw [nr hsz, List.length_map] at hlen
  refine ⟨hl, fun i hi => ?_⟩
  have hyi : ∀ j, j < sz → i * sz + j < ys.length := by
    intro j hj
    have : (i + 1) * sz ≤ xs.length * sz := Nat.mul_le_mul_right _ hi
    rw [Nat.add_mul] at this
    omega
  obtain ⟨a, ha, _⟩ := h2.r.get (hyi 0 h0)
  refine ⟨a, ha, ?_⟩
  have hh := cells?_mk (h := h) (a := a.add (i * sz)) (toC xs[i]) 0 fun j hj => ?_
  · rwa [hsz] at hh
  rw [hsz] at hj
  obtain ⟨a', ha', hc⟩ := h2.r.get (hyi j hj)
  rw [ha] at ha'; cases ha'
  rw [show (a.add (i * sz)).add (0 + j) = a.add (i * sz + j) by simp only [Addr.add]; by_cases h1 : i * sz = 0 <;> by_cases h2 : j = 0 <;> simp [h1, h2, Nat.add_assoc]]
  rw [hc]
  have h3 := af9 hsz xs i hi j hj
  rw [h1, List.getElem?_map, List.getElem?_eq_getElem (hyi j hj), List.getElem?_eq_getElem (by rw [hsz]; exact hj)] at h3
  simpa using h3
theorem OwnS.append1 {bytes : Nat} {x : α} {cs : List Value} {k : Sl → Heap → Prop} (ho : OwnS toC sz B h s xs) (hsz : ∀ x, (toC x).length = sz) (h0 : 0 < sz) (hone : bT (toC x) = true) (hB : B ≤ h.size) (hcs : cs = toC x)
    (hb : (xs.length + 1) * bytes ≤ 2 ^ 46) (K : ∀ s' h', OwnS toC sz B h' s' (xs ++ [x]) → Keep s.blk h h' → (s'.blk = s.blk ∨ ∀ b, s'.blk = some b → h.size ≤ b) → k s' h') : new cs h fun a h1 => aP sz bytes s (⟨some a, 1, 1⟩ : Sl) h1 k := by
  subst hcs
  intro T
  obtain ⟨hl, ys, h1, h2⟩ := ho
  obtain ⟨zs, hz⟩ := ad5 hone
  have e := Ext.push h (.cells (toC x).toArray T (0, 0))
  have hz2 := Own.new (toV := (Subtype.val : One → Value)) (ys := zs) (cs := toC x) (h := h) (T := T) hz
  have hzl : zs.length = sz := by have := congrArg List.length hz; rw [hsz, List.length_map] at this; exact this.symm
  refine aa0 h0 (by rw [hl]; exact hb) ?_
  have hx : Sl.sc sz (⟨some ⟨h.size, 0, none⟩, 1, 1⟩ : Sl) = ⟨some ⟨h.size, 0, none⟩, zs.length, zs.length⟩ := by simp [Sl.sc, hzl]
  rw [hx]
  refine (h2.ext e).append (by have := e.size; omega) hz2.r (fun x => x.2) (by simp) fun s' h' ho' k' hblk s'' hs'' => ?_
  subst hs''
  have kk : Keep s.blk h h' := (Keep.of_ext e).trans (by simpa [Sl.sc_blk] using k')
  refine K s'' h' ⟨?_, ys ++ zs, by rw [xq, h1, List.map_append, ← hz]; simp [flat], ho'⟩ kk ?_
  · have h3 := ho'.r.len
    have h4 := h2.r.len
    simp only [Sl.sc, List.length_append, hzl] at h3 h4
    have : s''.len * sz = (s.len + 1) * sz := by rw [h3, ← h4, Nat.add_mul, Nat.one_mul]
    have := Nat.eq_of_mul_eq_mul_right h0 this
    simp [this, hl]
  · rcases hblk with hblk | ⟨hblk, _⟩
    · left; simpa [Sl.sc_blk] using hblk
    · right; intro b hb'
      rw [Sl.sc_blk, hb'] at hblk
      cases hblk
      have := e.size; omega
end
end Go.Sh

namespace Go.Sh
open Go Go.Lift
def DNb (k : Nat) (h : Heap) (s : Sl) (n : Nat) : Prop := DN h s n ∧ (n ≠ 0 → s.blk ≠ some k)
structure RDb (k : Nat) (h : Heap) (x : X3) (q : Rat) : Prop where
  d : RD h x q
  num : DNb k h x.2.1 q.num.natAbs
  den : DNb k h x.2.2 q.den
structure DDb (k : Nat) (h : Heap) (x : X6) (p : Rat × Rat) : Prop where
  a : RDb k h (dA x) p.1
  b : RDb k h (dB x) p.2
section
variable {h0 h : Heap} {a : Addr} {lim : Nat} {x y : Bool × Sl × Sl} {p q : Rat} {Q : (Bool × Sl × Sl) → Heap → Prop}
end
abbrev PP := (Rat × Rat) × (Rat × Rat)
def akW (p : PP) : Prop := p.1.1 < p.2.1 ∧ p.2.2 < p.1.2
instance (p : PP) : Decidable (akW p) := by unfold akW; exact inferInstance
def akc (p : PP) : Rat := (p.2.1 - p.1.1) / (p.1.2 - p.2.2)
def amP (l : Rat) (p : PP) : Rat := if akW p then (if akc p < l then akc p else l) else l
def least (ps : List PP) : Rat := ps.foldl amP 1
end Go.Sh

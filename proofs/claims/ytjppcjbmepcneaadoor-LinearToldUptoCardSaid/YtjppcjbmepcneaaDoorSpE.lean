/-
  Laws that the proof of this claim's statement leans on, each proved under the conditions that it states.
-/
import Derived.Test.YtjppcjbmepcneaaDoorSpL
set_option linter.unusedVariables false
set_option linter.unusedSimpArgs false
namespace Go.Sh
open Go Go.Lift

/-! ### Numbers with a delta -/
abbrev X3 := Bool × Sl × Sl
abbrev X6 := Bool × Sl × Sl × Bool × Sl × Sl
abbrev dA (x : X6) : X3 := (x.1, x.2.1, x.2.2.1)
abbrev dB (x : X6) : X3 := (x.2.2.2.1, x.2.2.2.2.1, x.2.2.2.2.2)
abbrev d0 : X6 := (false, Sl.nil, Sl.nil, false, Sl.nil, Sl.nil)
structure DQ (h : Heap) (x : X6) (p : Rat × Rat) : Prop where
  a : RQ h (dA x) p.1
  b : RQ h (dB x) p.2
structure DF (k : Nat) (h : Heap) (x : X6) (p : Rat × Rat) : Prop where
  a : RF k h (dA x) p.1
  b : RF k h (dB x) p.2
structure DD (h : Heap) (x : X6) (p : Rat × Rat) : Prop where
  a : RD h (dA x) p.1
  b : RD h (dB x) p.2
def Fr6 (h : Heap) (x : X6) : Prop := Fr h (dA x) ∧ Fr h (dB x)
section
variable {h h' : Heap} {x : X6} {p : Rat × Rat} {k : Nat}
theorem DQ.ext (hx : DQ h x p) (e : Ext h h') : DQ h' x p := ⟨hx.a.ext e, hx.b.ext e⟩
theorem DF.ext (hx : DF k h x p) (e : Ext h h') : DF k h' x p := ⟨hx.a.ext e, hx.b.ext e⟩
theorem DD.ext (hx : DD h x p) (e : Ext h h') : DD h' x p := ⟨hx.a.ext e, hx.b.ext e⟩
theorem DF.keep (hx : DF k h x p) (e : Keep (some k) h h') : DF k h' x p := ⟨hx.a.keep e, hx.b.keep e⟩
theorem DQ.zero : DQ h d0 (0, 0) := ⟨RQ.zero, RQ.zero⟩
theorem DF.zero : DF k h d0 (0, 0) := ⟨RF.zero, RF.zero⟩
end
def szD (p : Rat × Rat) : Nat := max (szQ p.1) (szQ p.2)
section
variable {a : Addr} {lim : Nat} {ov : Bool} {h : Heap}
variable {x y : X6} {p q : Rat × Rat} {Q : X6 → Heap → Prop}
end

section
variable {h : Heap} {x y : X6} {p q : Rat × Rat}
end
end Go.Sh

namespace Go.Sh
open Go Go.Lift

def Raw3 (h : Heap) (x : X3) : Prop := ∃ xs ys, XR h x xs ys
theorem Raw3.nil {h : Heap} : Raw3 h (false, Sl.nil, Sl.nil) := ⟨[], [], R.nil, Lim.nil, R.nil, Lim.nil⟩
/-- A box of struct. -/
theorem new_cells {cs : List Value} {h : Heap} {k : Addr → Heap → Prop} (K : ∀ a h', cells? h' a cs.length 0 = some cs → a.block = h.size → Ext h h' → k a h') : new cs h k := by
  intro T
  refine K _ _ ?_ rfl (Ext.push _ _)
  rw [cells_new (n := cs.length) (by omega) (Nat.le_refl _)]
  simp
end Go.Sh

namespace Go.Sh
open Go Go.Lift

end Go.Sh

namespace Go.Sh
open Go Go.Lift

end Go.Sh

namespace Go.Sh
open Go Go.Lift

theorem newRS {α : Type} {toC : α → List Value} {sz : Nat} {h : Heap} {cs : List Value} {xs : List α} {k : Addr → Heap → Prop} (n : Nat) (hsz : ∀ x, (toC x).length = sz) (hn : n = xs.length) (hcs : cs = (xs.map toC).flatten)
    (K : ∀ a h', RS toC sz h' ⟨some a, n, n⟩ xs → a.block = h.size → Ext h h' → k a h') : new cs h k := by
  intro T
  exact K _ _ (RS.new hsz hn hcs) rfl (Ext.push _ _)

/-- A bench at hand. -/
structure BB (h0 : Heap) (a : Addr) (lim : Nat) (h : Heap) : Prop where
  tab : Tab h0
  bench : Bench h a lim false
  ext : Ext h0 h
  old : h0.size ≤ a.block
theorem BB.keep {h0 : Heap} {a : Addr} {lim : Nat} {h h' : Heap} (hv : BB h0 a lim h) (hb : Bench h' a lim false) (k : Keep (some a.block) h h') : BB h0 a lim h' :=
  ⟨hv.tab, hb, hv.ext.fresh hv.old k, hv.old⟩
theorem BB.of_ext {h0 : Heap} {a : Addr} {lim : Nat} {h h' : Heap} (hv : BB h0 a lim h) (k : Ext h h') : BB h0 a lim h' :=
  ⟨hv.tab, hv.bench.ext k, hv.ext.trans k, hv.old⟩
theorem BB.tb {h0 : Heap} {a : Addr} {lim : Nat} {h : Heap} (hv : BB h0 a lim h) : TB a.block h := hv.tab.tb hv.ext hv.old
theorem BB.pos {h0 : Heap} {a : Addr} {lim : Nat} {h : Heap} (hv : BB h0 a lim h) : 0 < h.size := by have := hv.bench.lt; omega

section
variable {h0 h : Heap} {a : Addr} {lim : Nat} {x y : X6} {p q : Rat × Rat} {Q : X6 → Heap → Prop}
end

end Go.Sh

namespace Go.Sh
open Go Go.Lift

abbrev One := { v : Value // one v = true }
def Sl.sc (sz : Nat) (s : Sl) : Sl := ⟨s.a, s.len * sz, s.cap * sz⟩
theorem Sl.sc_blk {sz : Nat} {s : Sl} : (Sl.sc sz s).blk = s.blk := rfl

/-- An append of rows of several cells, out of one of as many cells. -/
theorem appendS_sc {sz bytes : Nat} (hsz : 0 < sz) {s x : Sl} {h : Heap} {k : Sl → Heap → Prop} (hb : (s.len + x.len) * bytes ≤ 2 ^ 46)
    (H : appendS 1 0 (Sl.sc sz s) (Sl.sc sz x) h fun s' h' => ∀ s'', Sl.sc sz s'' = s' → k s'' h') : appendS sz bytes s x h k := by
  obtain ⟨vs, h1, h2, _, h4, h5⟩ := H
  simp only [Sl.sc, Nat.mul_one] at h1 h4 h5
  refine ⟨vs, h1, h2, hb, fun hf => ?_, fun hg => ?_⟩
  · have h6 := h4 (by rw [← Nat.add_mul]; exact Nat.mul_le_mul_right _ hf)
    cases ha : s.a with
    | none =>
      rw [ha] at h6
      exact h6 _ (by simp [Sl.sc, Nat.add_mul])
    | some a =>
      rw [ha] at h6
      exact ⟨h6.1, h6.2 _ (by simp [Sl.sc, Nat.add_mul])⟩
  · obtain ⟨old, h6, h7⟩ := h5 (by rw [← Nat.add_mul]; exact Nat.mul_lt_mul_of_pos_right hg hsz)
    refine ⟨old, h6, fun cap T rest hc hr => ?_⟩
    exact h7 (cap * sz) T rest (by rw [← Nat.add_mul]; exact Nat.mul_le_mul_right _ hc) (by rw [hr, Nat.sub_mul, Nat.add_mul]) _ (by simp [Sl.sc, Nat.add_mul])

def flat {α : Type} (toC : α → List Value) (xs : List α) : List Value := (xs.map toC).flatten
theorem flat_append {α : Type} {toC : α → List Value} {xs ys : List α} : flat toC (xs ++ ys) = flat toC xs ++ flat toC ys := by simp [flat]
theorem flat_len {α : Type} {toC : α → List Value} {sz : Nat} (hsz : ∀ x, (toC x).length = sz) (xs : List α) : (flat toC xs).length = xs.length * sz := by
  induction xs with
  | nil => simp [flat]
  | cons x xs ih => simp [flat] at ih ⊢; rw [ih, hsz, Nat.add_mul]; omega
theorem flat_get {α : Type} {toC : α → List Value} {sz : Nat} (hsz : ∀ x, (toC x).length = sz) : ∀ (xs : List α) (i : Nat) (hi : i < xs.length) (j : Nat) (hj : j < sz), (flat toC xs)[i * sz + j]? = (toC xs[i])[j]? := by
  intro xs
  induction xs with
  | nil => intro i hi; simp at hi
  | cons x xs ih =>
    intro i hi j hj
    have e : flat toC (x :: xs) = toC x ++ flat toC xs := by simp [flat]
    rw [e]
    cases i with
    | zero => rw [List.getElem?_append_left (by rw [hsz]; omega)]; simp
    | succ i =>
      rw [List.getElem?_append_right (by rw [hsz, Nat.add_mul]; omega), hsz]
      have := ih i (by simpa using hi) j hj
      rw [show (i + 1) * sz + j - sz = i * sz + j by rw [Nat.add_mul]; omega]
      simpa using this

structure OwnS {α : Type} (toC : α → List Value) (sz B : Nat) (h : Heap) (s : Sl) (xs : List α) : Prop where
  len : s.len = xs.length
  own : ∃ ys : List One, flat toC xs = ys.map Subtype.val ∧ Own (Subtype.val : One → Value) B h (Sl.sc sz s) ys

theorem ones_of {l : List Value} (h : oneCells l = true) : ∃ ys : List One, l = ys.map Subtype.val := by
  induction l with
  | nil => exact ⟨[], rfl⟩
  | cons v l ih =>
    simp only [oneCells, List.all_cons, Bool.and_eq_true] at h
    obtain ⟨ys, rfl⟩ := ih h.2
    exact ⟨⟨v, h.1⟩ :: ys, rfl⟩

section
variable {α : Type} {toC : α → List Value} {sz B : Nat} {h h' : Heap} {s : Sl} {xs : List α}

theorem OwnS.nil {T n : Nat} : OwnS toC sz h.size (h.push (.cells ([] : List Value).toArray T (0, 0))) ⟨some ⟨h.size, 0, none⟩, 0, 0⟩ ([] : List α) := by
  refine ⟨rfl, [], rfl, ?_⟩
  have := Own.new (toV := (Subtype.val : One → Value)) (ys := []) (cs := []) (h := h) (T := T) rfl
  simpa [Sl.sc] using this
theorem OwnS.keep (ho : OwnS toC sz B h s xs) {o : Option Nat} (k : Keep o h h') (hne : ∀ b, s.blk = some b → some b ≠ o) : OwnS toC sz B h' s xs := by
  obtain ⟨hl, ys, h1, h2⟩ := ho
  exact ⟨hl, ys, h1, h2.keep k hne⟩
theorem OwnS.ext (ho : OwnS toC sz B h s xs) (k : Ext h h') : OwnS toC sz B h' s xs := ho.keep k (fun _ _ => by simp)
theorem OwnS.lt (ho : OwnS toC sz B h s xs) {b : Nat} (hb : s.blk = some b) : B ≤ b ∧ b < h.size := by
  obtain ⟨hl, ys, h1, h2⟩ := ho
  exact h2.lt hb
theorem OwnS.rs (ho : OwnS toC sz B h s xs) (hsz : ∀ x, (toC x).length = sz) (h0 : 0 < sz) : RS toC sz h s xs := by
  obtain ⟨hl, ys, h1, h2⟩ := ho
  have hlen := congrArg List.length h1
  rw [flat_len hsz, List.length_map] at hlen
  refine ⟨hl, fun i hi => ?_⟩
  have hyi : ∀ j, j < sz → i * sz + j < ys.length := by
    intro j hj
    have : (i + 1) * sz ≤ xs.length * sz := Nat.mul_le_mul_right _ hi
    rw [Nat.add_mul] at this
    omega
  obtain ⟨a, ha, _⟩ := h2.r.get (hyi 0 h0)
  refine ⟨a, ha, ?_⟩
  have hh := cells?_mk (h := h) (a := a.add (i * sz)) (toC xs[i]) 0 fun j hj => ?_
  · rwa [hsz] at hh
  rw [hsz] at hj
  obtain ⟨a', ha', hc⟩ := h2.r.get (hyi j hj)
  rw [ha] at ha'; cases ha'
  rw [show (a.add (i * sz)).add (0 + j) = a.add (i * sz + j) by simp only [Addr.add]; by_cases h1 : i * sz = 0 <;> by_cases h2 : j = 0 <;> simp [h1, h2, Nat.add_assoc]]
  rw [hc]
  have h3 := flat_get hsz xs i hi j hj
  rw [h1, List.getElem?_map, List.getElem?_eq_getElem (hyi j hj), List.getElem?_eq_getElem (by rw [hsz]; exact hj)] at h3
  simpa using h3

/-- One more row. -/
theorem OwnS.append1 {bytes : Nat} {x : α} {cs : List Value} {k : Sl → Heap → Prop} (ho : OwnS toC sz B h s xs) (hsz : ∀ x, (toC x).length = sz) (h0 : 0 < sz) (hone : oneCells (toC x) = true) (hB : B ≤ h.size) (hcs : cs = toC x)
    (hb : (xs.length + 1) * bytes ≤ 2 ^ 46) (K : ∀ s' h', OwnS toC sz B h' s' (xs ++ [x]) → Keep s.blk h h' → (s'.blk = s.blk ∨ ∀ b, s'.blk = some b → h.size ≤ b) → k s' h') : new cs h fun a h1 => appendS sz bytes s (⟨some a, 1, 1⟩ : Sl) h1 k := by
  subst hcs
  intro T
  obtain ⟨hl, ys, h1, h2⟩ := ho
  obtain ⟨zs, hz⟩ := ones_of hone
  have e := Ext.push h (.cells (toC x).toArray T (0, 0))
  have hz2 := Own.new (toV := (Subtype.val : One → Value)) (ys := zs) (cs := toC x) (h := h) (T := T) hz
  have hzl : zs.length = sz := by have := congrArg List.length hz; rw [hsz, List.length_map] at this; exact this.symm
  refine appendS_sc h0 (by rw [hl]; exact hb) ?_
  have hx : Sl.sc sz (⟨some ⟨h.size, 0, none⟩, 1, 1⟩ : Sl) = ⟨some ⟨h.size, 0, none⟩, zs.length, zs.length⟩ := by simp [Sl.sc, hzl]
  rw [hx]
  refine (h2.ext e).append (by have := e.size; omega) hz2.r (fun x => x.2) (by simp) fun s' h' ho' k' hblk s'' hs'' => ?_
  subst hs''
  have kk : Keep s.blk h h' := (Keep.of_ext e).trans (by simpa [Sl.sc_blk] using k')
  refine K s'' h' ⟨?_, ys ++ zs, by rw [flat_append, h1, List.map_append, ← hz]; simp [flat], ho'⟩ kk ?_
  · have h3 := ho'.r.len
    have h4 := h2.r.len
    simp only [Sl.sc, List.length_append, hzl] at h3 h4
    have : s''.len * sz = (s.len + 1) * sz := by rw [h3, ← h4, Nat.add_mul, Nat.one_mul]
    have := Nat.eq_of_mul_eq_mul_right h0 this
    simp [this, hl]
  · rcases hblk with hblk | ⟨hblk, _⟩
    · left; simpa [Sl.sc_blk] using hblk
    · right; intro b hb'
      rw [Sl.sc_blk, hb'] at hblk
      cases hblk
      have := e.size; omega
end
end Go.Sh

namespace Go.Sh
open Go Go.Lift

/-- Digits, not in a block. -/
def DNb (k : Nat) (h : Heap) (s : Sl) (n : Nat) : Prop := DN h s n ∧ (n ≠ 0 → s.blk ≠ some k)
theorem DN.zero_of {h h' : Heap} {s : Sl} (hn : DN h s 0) : DN h' s 0 := by
  have := hn.len_zero.2 rfl
  exact ⟨[], R.nil_of this, by intro z hz; simp at hz, by simp [Nrm], rfl⟩
theorem DNb.ext {k : Nat} {h h' : Heap} {s : Sl} {n : Nat} (hn : DNb k h s n) (e : Ext h h') : DNb k h' s n := ⟨hn.1.ext e, hn.2⟩
theorem DNb.keep {k : Nat} {h h' : Heap} {s : Sl} {n : Nat} (hn : DNb k h s n) (e : Keep (some k) h h') : DNb k h' s n := by
  by_cases h0 : n = 0
  · subst h0
    exact ⟨hn.1.zero_of, hn.2⟩
  · exact ⟨hn.1.keepO e (fun b hb hc => hn.2 h0 (by cases hc; exact hb)), hn.2⟩
theorem DN.lt {h : Heap} {s : Sl} {n : Nat} (hn : DN h s n) (h0 : n ≠ 0) {b : Nat} (hb : s.blk = some b) : b < h.size := by
  obtain ⟨xs, h1, h2, h3, h4⟩ := hn
  cases ha : s.a with
  | none => simp [Sl.blk, ha] at hb
  | some a =>
    have : xs ≠ [] := by rintro rfl; exact h0 h4.symm
    have := h1.lt ha this
    simp [Sl.blk, ha] at hb
    omega
theorem DN.b {k : Nat} {h : Heap} {s : Sl} {n : Nat} (hn : DN h s n) (hk : h.size ≤ k) : DNb k h s n := ⟨hn, fun h0 hb => by have := hn.lt h0 hb; omega⟩
theorem DN.fb {k : Nat} {h0 h : Heap} {s : Sl} {n : Nat} (hn : DN h s n) (hf : ∀ b, s.blk = some b → h0.size ≤ b) (hk : k < h0.size) : DNb k h s n := ⟨hn, fun _ hb => by have := hf _ hb; omega⟩

structure RDb (k : Nat) (h : Heap) (x : X3) (q : Rat) : Prop where
  d : RD h x q
  num : DNb k h x.2.1 q.num.natAbs
  den : DNb k h x.2.2 q.den
theorem RDb.ext {k : Nat} {h h' : Heap} {x : X3} {q : Rat} (hn : RDb k h x q) (e : Ext h h') : RDb k h' x q := ⟨hn.d.ext e, hn.num.ext e, hn.den.ext e⟩
theorem RDb.keep {k : Nat} {h h' : Heap} {x : X3} {q : Rat} (hn : RDb k h x q) (e : Keep (some k) h h') : RDb k h' x q :=
  ⟨⟨(hn.num.keep e).1, (hn.den.keep e).1, hn.d.neg⟩, hn.num.keep e, hn.den.keep e⟩
theorem RDb.fresh {k : Nat} {h0 h : Heap} {x : X3} {q : Rat} (hn : RD h x q) (hf : Fr h0 x) (hk : k < h0.size) : RDb k h x q := ⟨hn, hn.num.fb hf.1 hk, hn.den.fb hf.2 hk⟩
structure DDb (k : Nat) (h : Heap) (x : X6) (p : Rat × Rat) : Prop where
  a : RDb k h (dA x) p.1
  b : RDb k h (dB x) p.2
theorem DDb.d {k : Nat} {h : Heap} {x : X6} {p : Rat × Rat} (hn : DDb k h x p) : DD h x p := ⟨hn.a.d, hn.b.d⟩
theorem DDb.ext {k : Nat} {h h' : Heap} {x : X6} {p : Rat × Rat} (hn : DDb k h x p) (e : Ext h h') : DDb k h' x p := ⟨hn.a.ext e, hn.b.ext e⟩
theorem DDb.keep {k : Nat} {h h' : Heap} {x : X6} {p : Rat × Rat} (hn : DDb k h x p) (e : Keep (some k) h h') : DDb k h' x p := ⟨hn.a.keep e, hn.b.keep e⟩
theorem DDb.fresh {k : Nat} {h0 h : Heap} {x : X6} {p : Rat × Rat} (hn : DD h x p) (hf : Fr6 h0 x) (hk : k < h0.size) : DDb k h x p := ⟨RDb.fresh hn.a hf.1 hk, RDb.fresh hn.b hf.2 hk⟩

theorem new1DF {h : Heap} {n : Nat} {k : Addr → Heap → Prop} (h0 : n ≠ 0) (hn : n < 10) (K : ∀ a h', DN h' ⟨some a, 1, 1⟩ n → a.block = h.size → Ext h h' → k a h') : new [Value.int .i64 (n : Int)] h k := by
  intro T
  have := (Own.new (toV := fun m : Nat => Value.int .i64 (m : Int)) (ys := [n]) (cs := [Value.int .i64 (n : Int)]) (h := h) (T := T) rfl).r
  exact K _ _ ⟨[n], this, by intro z hz; simp at hz; omega, by simp [Nrm]; omega, by simp [val]⟩ rfl (Ext.push _ _)

theorem OfRF_spec {h : Heap} {x : Bool × Sl × Sl} {xs ys : List Nat} {Q : (Bool × Sl × Sl) → Heap → Prop} (hx : XR h x xs ys) (lx : xs.length ≤ 1000) (ly : ys.length ≤ 1000)
    (K : ∀ r h', DN h' r.2.1 (val 4294967296 xs) → DN h' r.2.2 (if val 4294967296 ys = 0 then 1 else val 4294967296 ys) → r.1 = x.1 → Fr h r → Ext h h' → Q r h') : ref02uOf x h Q := by
  refine mem_ext fun h1 e1 => ?_
  refine seq.cut (fun t h2 => DN h2 t.2.1 (val 4294967296 xs) ∧ DN h2 t.2.2 (val 4294967296 ys) ∧ t.1 = x.1 ∧ Fr h t ∧ Ext h h2) ?_ ?_
  · refine mem_ext fun h2 e2 => ?_
    have X := (hx.ext e1).ext e2
    refine Of10uspec X.num X.lnum (by omega) fun r1 h3 hr1 e3 f1 => mem_ext fun h4 e4 => ?_
    have Y := (X.ext e3).ext e4
    refine Of10uspec Y.den Y.lden (by omega) fun r2 h5 hr2 e5 f2 => mem_ext fun h6 e6 => ?_
    have s1 := e1.size; have s2 := e2.size; have s3 := e3.size; have s4 := e4.size
    exact ⟨((hr1.ext e4).ext e5).ext e6, hr2.ext e6, rfl, ⟨fun b hb => by have := f1 b hb; omega, fun b hb => by have := f2 b hb; omega⟩, e1.trans (e2.trans (e3.trans (e4.trans (e5.trans e6))))⟩
  · rintro ⟨t1, t2, t3⟩ h2 ⟨ht2, ht3, ht1, hf, e2⟩
    simp only at ht1 ht2 ht3
    dsimp only
    refine seq.cut (fun t h3 => DN h3 t.2.1 (val 4294967296 xs) ∧ DN h3 t.2.2 (if val 4294967296 ys = 0 then 1 else val 4294967296 ys) ∧ t.1 = x.1 ∧ Fr h t ∧ Ext h h3) ?_ ?_
    · refine ⟨fun hz => ?_, fun hz => ?_⟩
      · simp only [beq_iff_eq] at hz
        have h0 : val 4294967296 ys = 0 := ht3.len_zero.1 (by omega)
        rw [if_pos h0]
        refine new1DF (n := 1) (by decide) (by decide) fun a h3 hd hab e3 => ⟨ht2.ext e3, hd, ht1, ⟨hf.1, fun b hb => ?_⟩, e2.trans e3⟩
        have := e2.size
        simp [Sl.blk] at hb
        omega
      · have h0 : val 4294967296 ys ≠ 0 := fun h0 => by
          have := ht3.len_zero.2 h0
          simp [this] at hz
        rw [if_neg h0]
        exact ⟨ht2, ht3, ht1, hf, e2⟩
    · rintro ⟨u1, u2, u3⟩ h3 ⟨hu2, hu3, hu1, hf, e3⟩
      exact K _ h3 hu2 hu3 hu1 hf e3
theorem OfQF_spec {h : Heap} {x : Bool × Sl × Sl} {q : Rat} {Q : (Bool × Sl × Sl) → Heap → Prop} (hx : RQ h x q) (hs : szQ q ≤ 1000)
    (K : ∀ r h', RD h' r q → Fr h r → Ext h h' → Q r h') : ref02uOf x h Q := by
  obtain ⟨xs, ys, hX, v1, v2, l1, l2⟩ := hx.xr
  have := nl_num_le q; have := nl_dn_le q
  refine OfRF_spec hX (by omega) (by omega) fun r h' h1 h2 h3 hf e => K r h' ⟨by rw [← v1]; exact h1, ?_, by rw [h3]; exact hx.neg⟩ hf e
  rw [v2, dn_den] at h2; exact h2
/-! ### Beside a bench at hand -/
section
variable {h0 h : Heap} {a : Addr} {lim : Nat} {x y : Bool × Sl × Sl} {p q : Rat} {Q : (Bool × Sl × Sl) → Heap → Prop}
end

/-! ### The small delta -/
abbrev PP := (Rat × Rat) × (Rat × Rat)
/-- Does the pair turn round some day? -/
def turns (p : PP) : Prop := p.1.1 < p.2.1 ∧ p.2.2 < p.1.2
instance (p : PP) : Decidable (turns p) := by unfold turns; exact inferInstance
def turnAt (p : PP) : Rat := (p.2.1 - p.1.1) / (p.1.2 - p.2.2)
def stepS (l : Rat) (p : PP) : Rat := if turns p then (if turnAt p < l then turnAt p else l) else l
def least (ps : List PP) : Rat := ps.foldl stepS 1
end Go.Sh

/-
  Laws that the proof of this claim's statement leans on, each proved under the conditions that it states.
-/
import Derived.Test.YtlclchgingkkhaaGreatDoorSpL
import Derived.Test.YtlclchgingkkhaaGreatDoorFwE
set_option linter.unusedVariables false
set_option linter.unusedSimpArgs false
namespace Go.Sh
open Go Go.Lift
abbrev X3 := Bool × Sl × Sl
abbrev X6 := Bool × Sl × Sl × Bool × Sl × Sl
abbrev dA (x : X6) : X3 := (x.1, x.2.1, x.2.2.1)
abbrev dB (x : X6) : X3 := (x.2.2.2.1, x.2.2.2.2.1, x.2.2.2.2.2)
abbrev d0 : X6 := (false, Sl.nil, Sl.nil, false, Sl.nil, Sl.nil)
structure DQ (h : Heap) (x : X6) (p : Rat × Rat) : Prop where
  a : RQ h (dA x) p.1
  b : RQ h (dB x) p.2
structure DF (k : Nat) (h : Heap) (x : X6) (p : Rat × Rat) : Prop where
  a : RF k h (dA x) p.1
  b : RF k h (dB x) p.2
structure DD (h : Heap) (x : X6) (p : Rat × Rat) : Prop where
  a : RD h (dA x) p.1
  b : RD h (dB x) p.2
section
variable {h h' : Heap} {x : X6} {p : Rat × Rat} {k : Nat}
theorem DQ.ext (hx : DQ h x p) (e : Ext h h') : DQ h' x p := ⟨hx.a.ext e, hx.b.ext e⟩
theorem DF.ext (hx : DF k h x p) (e : Ext h h') : DF k h' x p := ⟨hx.a.ext e, hx.b.ext e⟩
theorem DD.ext (hx : DD h x p) (e : Ext h h') : DD h' x p := ⟨hx.a.ext e, hx.b.ext e⟩
theorem DF.keep (hx : DF k h x p) (e : Keep (some k) h h') : DF k h' x p := ⟨hx.a.keep e, hx.b.keep e⟩
theorem DQ.zero : DQ h d0 (0, 0) := ⟨RQ.zero, RQ.zero⟩
theorem DF.zero : DF k h d0 (0, 0) := ⟨RF.zero, RF.zero⟩
end
section
variable {a : Addr} {lim : Nat} {ov : Bool} {h : Heap}
variable {x y : X6} {p q : Rat × Rat} {Q : X6 → Heap → Prop}
end
section
variable {h : Heap} {x y : X6} {p q : Rat × Rat}
end
end Go.Sh

namespace Go.Sh
open Go Go.Lift
def Raw3 (h : Heap) (x : X3) : Prop := ∃ xs ys, XR h x xs ys
theorem Raw3.nil {h : Heap} : Raw3 h (false, Sl.nil, Sl.nil) := ⟨[], [], R.nil, Lim.nil, R.nil, Lim.nil⟩
end Go.Sh

namespace Go.Sh
open Go Go.Lift
end Go.Sh

namespace Go.Sh
open Go Go.Lift
end Go.Sh

namespace Go.Sh
open Go Go.Lift
theorem newRS {α : Type} {toC : α → List Value} {sz : Nat} {h : Heap} {cs : List Value} {xs : List α} {k : Addr → Heap → Prop} (n : Nat) (hsz : ∀ x, (toC x).length = sz) (hn : n = xs.length) (hcs : cs = (xs.map toC).flatten)
    (K : ∀ a h', RS toC sz h' ⟨some a, n, n⟩ xs → a.block = h.size → Ext h h' → k a h') : new cs h k := by
  intro T
  exact K _ _ (RS.new hsz hn hcs) rfl (Ext.push _ _)
structure BB (h0 : Heap) (a : Addr) (lim : Nat) (h : Heap) : Prop where
  tab : Tab h0
  bench : Bench h a lim false
  ext : Ext h0 h
  old : h0.size ≤ a.block
theorem BB.keep {h0 : Heap} {a : Addr} {lim : Nat} {h h' : Heap} (hv : BB h0 a lim h) (hb : Bench h' a lim false) (k : Keep (some a.block) h h') : BB h0 a lim h' :=
  ⟨hv.tab, hb, hv.ext.fresh hv.old k, hv.old⟩
theorem BB.of_ext {h0 : Heap} {a : Addr} {lim : Nat} {h h' : Heap} (hv : BB h0 a lim h) (k : Ext h h') : BB h0 a lim h' :=
  ⟨hv.tab, hv.bench.ext k, hv.ext.trans k, hv.old⟩
theorem BB.tb {h0 : Heap} {a : Addr} {lim : Nat} {h : Heap} (hv : BB h0 a lim h) : TB a.block h := hv.tab.tb hv.ext hv.old
theorem BB.pos {h0 : Heap} {a : Addr} {lim : Nat} {h : Heap} (hv : BB h0 a lim h) : 0 < h.size := by have := hv.bench.lt; omega
section
variable {h0 h : Heap} {a : Addr} {lim : Nat} {x y : X6} {p q : Rat × Rat} {Q : X6 → Heap → Prop}
end
end Go.Sh

namespace Go.Sh
open Go Go.Lift
abbrev One := { v : Value // one v = true }
def Sl.sc (sz : Nat) (s : Sl) : Sl := ⟨s.a, s.len * sz, s.cap * sz⟩
theorem Sl.sc_blk {sz : Nat} {s : Sl} : (Sl.sc sz s).blk = s.blk := rfl
theorem appendS_sc {sz bytes : Nat} (hsz : 0 < sz) {s x : Sl} {h : Heap} {k : Sl → Heap → Prop} (hb : (s.len + x.len) * bytes ≤ 2 ^ 46)
    (H : appendS 1 0 (Sl.sc sz s) (Sl.sc sz x) h fun s' h' => ∀ s'', Sl.sc sz s'' = s' → k s'' h') : appendS sz bytes s x h k := by
  obtain ⟨vs, h1, h2, _, h4, h5⟩ := H
  simp only [Sl.sc, Nat.mul_one] at h1 h4 h5
  refine ⟨vs, h1, h2, hb, fun hf => ?_, fun hg => ?_⟩
  · have h6 := h4 (by rw [← Nat.add_mul]; exact Nat.mul_le_mul_right _ hf)
    cases ha : s.a with
    | none =>
      rw [ha] at h6
      exact h6 _ (by simp [Sl.sc, Nat.add_mul])
    | some a =>
      rw [ha] at h6
      exact ⟨h6.1, h6.2 _ (by simp [Sl.sc, Nat.add_mul])⟩
  · obtain ⟨old, h6, h7⟩ := h5 (by rw [← Nat.add_mul]; exact Nat.mul_lt_mul_of_pos_right hg hsz)
    refine ⟨old, h6, fun cap T rest hc hr => ?_⟩
    exact h7 (cap * sz) T rest (by rw [← Nat.add_mul]; exact Nat.mul_le_mul_right _ hc) (by rw [hr, Nat.sub_mul, Nat.add_mul]) _ (by simp [Sl.sc, Nat.add_mul])
def flat {α : Type} (toC : α → List Value) (xs : List α) : List Value := (xs.map toC).flatten
theorem flat_append {α : Type} {toC : α → List Value} {xs ys : List α} : flat toC (xs ++ ys) = flat toC xs ++ flat toC ys := by simp [flat]
theorem flat_len {α : Type} {toC : α → List Value} {sz : Nat} (hsz : ∀ x, (toC x).length = sz) (xs : List α) : (flat toC xs).length = xs.length * sz := by
  induction xs with
  | nil => simp [flat]
  | cons x xs ih => simp [flat] at ih ⊢; rw [ih, hsz, Nat.add_mul]; omega
theorem flat_get {α : Type} {toC : α → List Value} {sz : Nat} (hsz : ∀ x, (toC x).length = sz) : ∀ (xs : List α) (i : Nat) (hi : i < xs.length) (j : Nat) (hj : j < sz), (flat toC xs)[i * sz + j]? = (toC xs[i])[j]? := by
  intro xs
  induction xs with
  | nil => intro i hi; simp at hi
  | cons x xs ih =>
    intro i hi j hj
    have e : flat toC (x :: xs) = toC x ++ flat toC xs := by simp [flat]
    rw [e]
    cases i with
    | zero => rw [List.getElem?_append_left (by rw [hsz]; omega)]; simp
    | succ i =>
      rw [List.getElem?_append_right (by rw [hsz, Nat.add_mul]; omega), hsz]
      have := ih i (by simpa using hi) j hj
      rw [show (i + 1) * sz + j - sz = i * sz + j by rw [Nat.add_mul]; omega]
      simpa using this
structure OwnS {α : Type} (toC : α → List Value) (sz B : Nat) (h : Heap) (s : Sl) (xs : List α) : Prop where
  len : s.len = xs.length
  own : ∃ ys : List One, flat toC xs = ys.map Subtype.val ∧ Own (Subtype.val : One → Value) B h (Sl.sc sz s) ys
theorem ones_of {l : List Value} (h : oneCells l = true) : ∃ ys : List One, l = ys.map Subtype.val := by
  induction l with
  | nil => exact ⟨[], rfl⟩
  | cons v l ih =>
    simp only [oneCells, List.all_cons, Bool.and_eq_true] at h
    obtain ⟨ys, rfl⟩ := ih h.2
    exact ⟨⟨v, h.1⟩ :: ys, rfl⟩
section
variable {α : Type} {toC : α → List Value} {sz B : Nat} {h h' : Heap} {s : Sl} {xs : List α}
theorem OwnS.nil {T n : Nat} : OwnS toC sz h.size (h.push (.cells ([] : List Value).toArray T (0, 0))) ⟨some ⟨h.size, 0, none⟩, 0, 0⟩ ([] : List α) := by
  refine ⟨rfl, [], rfl, ?_⟩
  have := Own.new (toV := (Subtype.val : One → Value)) (ys := []) (cs := []) (h := h) (T := T) rfl
  simpa [Sl.sc] using this
theorem OwnS.keep (ho : OwnS toC sz B h s xs) {o : Option Nat} (k : Keep o h h') (hne : ∀ b, s.blk = some b → some b ≠ o) : OwnS toC sz B h' s xs := by
  obtain ⟨hl, ys, h1, h2⟩ := ho
  exact ⟨hl, ys, h1, h2.keep k hne⟩
theorem OwnS.ext (ho : OwnS toC sz B h s xs) (k : Ext h h') : OwnS toC sz B h' s xs := ho.keep k (fun _ _ => by simp)
theorem OwnS.lt (ho : OwnS toC sz B h s xs) {b : Nat} (hb : s.blk = some b) : B ≤ b ∧ b < h.size := by
  obtain ⟨hl, ys, h1, h2⟩ := ho
  exact h2.lt hb
theorem OwnS.rs (ho : OwnS toC sz B h s xs) (hsz : ∀ x, (toC x).length = sz) (h0 : 0 < sz) : RS toC sz h s xs := by
  obtain ⟨hl, ys, h1, h2⟩ := ho
  have hlen := congrArg List.length h1
  rw [flat_len hsz, List.length_map] at hlen
  refine ⟨hl, fun i hi => ?_⟩
  have hyi : ∀ j, j < sz → i * sz + j < ys.length := by
    intro j hj
    have : (i + 1) * sz ≤ xs.length * sz := Nat.mul_le_mul_right _ hi
    rw [Nat.add_mul] at this
    omega
  obtain ⟨a, ha, _⟩ := h2.r.get (hyi 0 h0)
  refine ⟨a, ha, ?_⟩
  have hh := cells?_mk (h := h) (a := a.add (i * sz)) (toC xs[i]) 0 fun j hj => ?_
  · rwa [hsz] at hh
  rw [hsz] at hj
  obtain ⟨a', ha', hc⟩ := h2.r.get (hyi j hj)
  rw [ha] at ha'; cases ha'
  rw [show (a.add (i * sz)).add (0 + j) = a.add (i * sz + j) by simp only [Addr.add]; by_cases h1 : i * sz = 0 <;> by_cases h2 : j = 0 <;> simp [h1, h2, Nat.add_assoc]]
  rw [hc]
  have h3 := flat_get hsz xs i hi j hj
  rw [h1, List.getElem?_map, List.getElem?_eq_getElem (hyi j hj), List.getElem?_eq_getElem (by rw [hsz]; exact hj)] at h3
  simpa using h3
theorem OwnS.append1 {bytes : Nat} {x : α} {cs : List Value} {k : Sl → Heap → Prop} (ho : OwnS toC sz B h s xs) (hsz : ∀ x, (toC x).length = sz) (h0 : 0 < sz) (hone : oneCells (toC x) = true) (hB : B ≤ h.size) (hcs : cs = toC x)
    (hb : (xs.length + 1) * bytes ≤ 2 ^ 46) (K : ∀ s' h', OwnS toC sz B h' s' (xs ++ [x]) → Keep s.blk h h' → (s'.blk = s.blk ∨ ∀ b, s'.blk = some b → h.size ≤ b) → k s' h') : new cs h fun a h1 => appendS sz bytes s (⟨some a, 1, 1⟩ : Sl) h1 k := by
  subst hcs
  intro T
  obtain ⟨hl, ys, h1, h2⟩ := ho
  obtain ⟨zs, hz⟩ := ones_of hone
  have e := Ext.push h (.cells (toC x).toArray T (0, 0))
  have hz2 := Own.new (toV := (Subtype.val : One → Value)) (ys := zs) (cs := toC x) (h := h) (T := T) hz
  have hzl : zs.length = sz := by have := congrArg List.length hz; rw [hsz, List.length_map] at this; exact this.symm
  refine appendS_sc h0 (by rw [hl]; exact hb) ?_
  have hx : Sl.sc sz (⟨some ⟨h.size, 0, none⟩, 1, 1⟩ : Sl) = ⟨some ⟨h.size, 0, none⟩, zs.length, zs.length⟩ := by simp [Sl.sc, hzl]
  rw [hx]
  refine (h2.ext e).append (by have := e.size; omega) hz2.r (fun x => x.2) (by simp) fun s' h' ho' k' hblk s'' hs'' => ?_
  subst hs''
  have kk : Keep s.blk h h' := (Keep.of_ext e).trans (by simpa [Sl.sc_blk] using k')
  refine K s'' h' ⟨?_, ys ++ zs, by rw [flat_append, h1, List.map_append, ← hz]; simp [flat], ho'⟩ kk ?_
  · have h3 := ho'.r.len
    have h4 := h2.r.len
    simp only [Sl.sc, List.length_append, hzl] at h3 h4
    have : s''.len * sz = (s.len + 1) * sz := by rw [h3, ← h4, Nat.add_mul, Nat.one_mul]
    have := Nat.eq_of_mul_eq_mul_right h0 this
    simp [this, hl]
  · rcases hblk with hblk | ⟨hblk, _⟩
    · left; simpa [Sl.sc_blk] using hblk
    · right; intro b hb'
      rw [Sl.sc_blk, hb'] at hblk
      cases hblk
      have := e.size; omega
end
end Go.Sh

namespace Go.Sh
open Go Go.Lift
abbrev shQ : Shape := .cat (.cat .bool (.cat (.slice (.int .u32)) .nil)) (.cat (.slice (.int .u32)) .nil)
theorem is_q {h : Heap} {cs : List Value} (H : shQ.Is h cs) : ∃ x : X3, cs = C_bool_sl_sl x ∧ Raw3 h x := by
  obtain ⟨l, r, rfl, ⟨l1, r1, rfl, ⟨b, rfl⟩, l2, r2, rfl, h2, rfl⟩, l3, r3, rfl, h3, rfl⟩ := H
  obtain ⟨s, xs, rfl, h4, h5⟩ := is_u32 h2
  obtain ⟨t, ys, rfl, h6, h7⟩ := is_u32 h3
  exact ⟨(b, s, t), rfl, xs, ys, h4, h5, h6, h7⟩
end Go.Sh

/-
  Laws that the proof of this claim's statement leans on, each proved under the conditions that it states.
-/
import Derived.Test.YtlclchgingkkhaaGreatDoorSpE
set_option linter.unusedVariables false
set_option linter.unusedSimpArgs false
namespace Go.Sh
open Go Go.Lift
structure RK (K : Nat → Prop) (h : Heap) (x : X3) (q : Rat) : Prop where
  rq : RQ h x q
  num : ∀ k, K k → x.2.1.blk = some k → q.num.natAbs = 0
  den : ∀ k, K k → x.2.2.blk = some k → dn q = 0
section
variable {K K' : Nat → Prop} {h h' h0 : Heap} {x : X3} {q : Rat}
theorem RK.rf (hx : RK K h x q) {k : Nat} (hk : K k) : RF k h x q := ⟨⟨hx.rq.num, hx.num k hk⟩, ⟨hx.rq.den, hx.den k hk⟩, hx.rq.neg⟩
theorem RK.keep (hx : RK K h x q) {o : Option Nat} (e : Keep o h h') (ho : ∀ k, o = some k → K k) : RK K h' x q := by
  cases o with
  | none => exact ⟨hx.rq.ext e, hx.num, hx.den⟩
  | some k => exact ⟨((hx.rf (ho k rfl)).keep e).rq, hx.num, hx.den⟩
theorem RK.ext (hx : RK K h x q) (e : Ext h h') : RK K h' x q := hx.keep e (by simp)
theorem RK.raise (hx : RK K h x q) (hk : ∀ k, K' k → K k ∨ h.size ≤ k) : RK K' h x q := by
  refine ⟨hx.rq, fun k h1 h2 => ?_, fun k h1 h2 => ?_⟩
  · rcases hk k h1 with h3 | h3
    · exact hx.num k h3 h2
    · exact Classical.byContradiction fun hn => by have := hx.rq.num.lt_blk h2 hn; omega
  · rcases hk k h1 with h3 | h3
    · exact hx.den k h3 h2
    · exact Classical.byContradiction fun hn => by have := hx.rq.den.lt_blk h2 hn; omega
theorem RK.of_rq (hx : RQ h x q) (hk : ∀ k, K k → h.size ≤ k) : RK K h x q :=
  RK.raise (K := fun _ => False) ⟨hx, fun _ h => h.elim, fun _ h => h.elim⟩ (fun k h => .inr (hk k h))
theorem RK.fresh (hx : RQ h x q) (hf : Fr h0 x) (hk : ∀ k, K k → k < h0.size) : RK K h x q :=
  ⟨hx, fun k h1 h2 => by have := hk k h1; have := hf.1 k h2; omega, fun k h1 h2 => by have := hk k h1; have := hf.2 k h2; omega⟩
theorem RK.zero : RK K h (false, Sl.nil, Sl.nil) 0 := ⟨RQ.zero, fun _ _ h => (by cases h), fun _ _ h => (by cases h)⟩
end
abbrev X4 := Bool × Sl × Sl × Sl
abbrev Y4 := Int × Bool × Sl × Sl
abbrev C4 := ai
abbrev cst (x : X4) : X3 := (x.1, x.2.1, x.2.2.1)
abbrev co (y : Y4) : X3 := (y.2.1, y.2.2.1, y.2.2.2)
abbrev PL := List (Int × Rat)
theorem len4 (y : Y4) : (C4 y).length = 4 := rfl
inductive All2 {α β : Type} (R : α → β → Prop) : List α → List β → Prop
  | nil : All2 R [] []
  | cons {a b l m} : R a b → All2 R l m → All2 R (a :: l) (b :: m)
section
variable {α β : Type} {R S : α → β → Prop} {l l' : List α} {m m' : List β}
theorem All2.length (h : All2 R l m) : l.length = m.length := by induction h <;> simp_all
theorem All2.append (h : All2 R l m) (h' : All2 R l' m') : All2 R (l ++ l') (m ++ m') := by
  induction h with
  | nil => exact h'
  | cons h1 _ ih => exact .cons h1 ih
theorem All2.imp (h : All2 R l m) (hi : ∀ a b, R a b → S a b) : All2 S l m := by
  induction h with
  | nil => exact .nil
  | cons h1 _ ih => exact .cons (hi _ _ h1) ih
theorem All2.get (h : All2 R l m) : ∀ (i : Nat) (h1 : i < l.length) (h2 : i < m.length), R l[i] m[i] := by
  induction h with
  | nil => intro i h1; simp at h1
  | cons h1 _ ih =>
    intro i h2 h3
    cases i with
    | zero => exact h1
    | succ i => exact ih i (by simpa using h2) (by simpa using h3)
end
structure MK (K : Nat → Prop) (h : Heap) (s : Sl) (ms : PL) : Prop where
  cap : s.len ≤ s.cap
  row : ∃ ys : List Y4, RS C4 4 h s ys ∧ All2 (fun y m => y.1 = m.1 ∧ RK K h (co y) m.2) ys ms
  off : ms ≠ [] → ∀ k, K k → s.blk ≠ some k
section
variable {K K' : Nat → Prop} {h h' h0 : Heap} {s : Sl} {ms : PL}
theorem MK.len (hm : MK K h s ms) : s.len = ms.length := by obtain ⟨ys, h1, h2⟩ := hm.row; rw [h1.len, h2.length]
theorem MK.nil : MK K h Sl.nil [] := ⟨Nat.le_refl _, ⟨[], RS.nil rfl, .nil⟩, fun h => absurd rfl h⟩
theorem ce {h h' : Heap} {o : Option Nat} (e : Keep o h h') {a : Addr} (hne : some a.block ≠ o) : ∀ {n i : Nat} {l : List Value}, cells? h a n i = some l → cells? h' a n i = some l := by
  intro n
  induction n with
  | zero => intro i l h1; exact h1
  | succ n ih =>
    intro i l h1
    simp only [cells?] at h1 ⊢
    split at h1 <;> simp at h1
    rename_i v r h2 h3
    subst h1
    have hb : (a.add i).block = a.block := af a i
    rw [ag e h2 (by rw [hb]; exact hne), ih h3]
theorem RS.keep {α : Type} {toC : α → List Value} {sz : Nat} {h h' : Heap} {s : Sl} {xs : List α} {o : Option Nat} (hr : RS toC sz h s xs) (e : Keep o h h') (hne : xs ≠ [] → ∀ a, s.a = some a → some a.block ≠ o) : RS toC sz h' s xs :=
  ⟨hr.len, fun i hi => by
    obtain ⟨a, ha, hc⟩ := hr.cells i hi
    have hb : (a.add (i * sz)).block = a.block := af _ _
    exact ⟨a, ha, ce e (by rw [hb]; exact hne (by rintro rfl; simp at hi) a ha) hc⟩⟩
theorem RS.lt {α : Type} {toC : α → List Value} {sz : Nat} {h : Heap} {s : Sl} {xs : List α} (hr : RS toC sz h s xs) (h0 : 0 < sz) (hne : xs ≠ []) {b : Nat} (hb : s.blk = some b) : b < h.size := by
  have hi : 0 < xs.length := List.length_pos_iff.2 hne
  obtain ⟨a, ha, hc⟩ := hr.cells 0 hi
  have hl := cells?_length _ _ _ hc
  have := cells?_get _ _ _ hc 0 (by omega)
  have := bV this
  rw [af, af] at this
  simp [Sl.blk, ha] at hb
  omega
theorem MK.keep (hm : MK K h s ms) {o : Option Nat} (e : Keep o h h') (ho : ∀ k, o = some k → K k) : MK K h' s ms := by
  obtain ⟨ys, h1, h2⟩ := hm.row
  refine ⟨hm.cap, ⟨ys, h1.keep e fun hne a ha hh => ?_, h2.imp fun y m h3 => ⟨h3.1, h3.2.keep e ho⟩⟩, hm.off⟩
  have hms : ms ≠ [] := by rintro rfl; have := h2.length; simp at this; exact hne this
  exact hm.off hms _ (ho _ hh.symm) (by simp [Sl.blk, ha])
theorem MK.ext (hm : MK K h s ms) (e : Ext h h') : MK K h' s ms := hm.keep e (by simp)
theorem MK.raise (hm : MK K h s ms) (hk : ∀ k, K' k → K k ∨ h.size ≤ k) : MK K' h s ms := by
  obtain ⟨ys, h1, h2⟩ := hm.row
  refine ⟨hm.cap, ⟨ys, h1, h2.imp fun y m h3 => ⟨h3.1, h3.2.raise hk⟩⟩, fun hne k h3 hb => ?_⟩
  rcases hk k h3 with h4 | h4
  · exact hm.off hne k h4 hb
  · have hys : ys ≠ [] := by rintro rfl; have := h2.length; simp at this; exact hne (List.eq_nil_of_length_eq_zero this.symm)
    have := h1.lt (by decide) hys hb
    omega
theorem MK.at (hm : MK K h s ms) {i : Int} {j : Nat} {k : Addr → Prop} (hij : i = (j : Int)) (hj : j < ms.length) (C : ∀ a (y : Y4), cells? h a 4 0 = some (C4 y) → y.1 = ms[j].1 → RK K h (co y) ms[j].2 → k a) : idxS s i 4 k := by
  obtain ⟨ys, h1, h2⟩ := hm.row
  have hjy : j < ys.length := by rw [h2.length]; exact hj
  subst hij
  obtain ⟨a, ha, hc⟩ := h1.cells j hjy
  have := h1.len
  have hg := h2.get j hjy hj
  exact ⟨a, ha, ⟨by omega, by omega⟩, C _ ys[j] (by simpa using hc) hg.1 hg.2⟩
theorem dX {a : Addr} {y : Y4} (hc : cells? h a 4 0 = some (C4 y)) : cell? h (a.add 0) = some (Value.int .i64 y.1) := by
  have := cells?_get _ _ _ hc 0 (by simp [C4, ai])
  simpa [C4, ai] using this
theorem yt {a : Addr} {y : Y4} (hc : cells? h a 4 0 = some (C4 y)) : cells? h (a.add 1) 3 0 = some (aA (co y)) := by
  have h2 := cells?_length _ _ _ hc
  have h3 := cells?_mk (h := h) (a := a.add 1) (aA (co y)) 0 fun j hj => ?_
  · exact h3
  have hj' : j < 3 := hj
  have h4 := cells?_get _ _ _ hc (j + 1) (by simp [C4, ai]; omega)
  rw [aS, show 1 + (0 + j) = 0 + (j + 1) by omega, h4]
  simp [C4, ai, aA]
theorem MK.tail {m : Int × Rat} {k : Sl → Prop} (hm : MK K h s (m :: ms)) (C : ∀ s', MK K h s' ms → k s') : sliceOf s (some 1) none none 4 k := by
  have hlen := hm.len
  have hcap := hm.cap
  simp only [List.length_cons] at hlen
  refine ⟨⟨by simp, by simp⟩, ⟨by simp, .inl rfl⟩, ⟨by simp, by simp only [Option.getD_none, Option.getD_some]; omega⟩, C _ ?_⟩
  obtain ⟨ys, h1, h2⟩ := hm.row
  cases h2 with
  | cons h3 h4 =>
    rename_i y ys
    have hoff := hm.off (by simp)
    refine ⟨?_, ⟨ys, ⟨?_, fun i hi => ?_⟩, h4⟩, fun hne k hk hb => ?_⟩
    · simp only [Option.getD_none, Option.getD_some, Int.toNat_natCast]; omega
    · have := h1.len; simp only [Option.getD_none, Option.getD_some, Int.toNat_natCast, List.length_cons] at *; omega
    · obtain ⟨a, ha, hc⟩ := h1.cells (i + 1) (by simpa using hi)
      have hc1 : ¬ ((none : Option Int).getD (s.cap : Int) = (some (1 : Int)).getD 0) := by
        have := h1.len; simp only [Option.getD_none, Option.getD_some, List.length_cons] at *; omega
      refine ⟨a.add 4, by rw [if_neg hc1, ha]; rfl, ?_⟩
      rw [aS, show 4 + i * 4 = (i + 1) * 4 by omega]
      simpa using hc
    · cases ha : s.a with
      | none => simp [Sl.blk, ha] at hb
      | some a =>
        apply hoff k hk
        simp only [Sl.blk, ha, Option.map_some] at hb ⊢
        rw [← hb]
        split <;> simp [af]
structure OM (K : Nat → Prop) (B : Nat) (h : Heap) (s : Sl) (ms : PL) : Prop where
  low : ∀ k, K k → k < B
  row : ∃ ys : List Y4, OwnS C4 4 B h s ys ∧ All2 (fun y m => y.1 = m.1 ∧ RK (fun k => K k ∨ s.blk = some k) h (co y) m.2) ys ms
theorem OM.nil {B : Nat} (hl : ∀ k, K k → k < B) : OM K B h Sl.nil [] := ⟨hl, [], ⟨rfl, [], rfl, Own.nil⟩, .nil⟩
theorem OM.keep {B : Nat} (hm : OM K B h s ms) {o : Option Nat} (e : Keep o h h') (ho : ∀ k, o = some k → K k) : OM K B h' s ms := by
  obtain ⟨ys, h1, h2⟩ := hm.row
  refine ⟨hm.low, ys, h1.keep e fun b hb hh => ?_, h2.imp fun y m h3 => ⟨h3.1, h3.2.keep e fun k hk => .inl (ho k hk)⟩⟩
  have := hm.low b (ho b hh.symm)
  have := (h1.lt hb).1
  omega
theorem OM.ext {B : Nat} (hm : OM K B h s ms) (e : Ext h h') : OM K B h' s ms := hm.keep e (by simp)
theorem OM.lt {B : Nat} (hm : OM K B h s ms) {b : Nat} (hb : s.blk = some b) : B ≤ b ∧ b < h.size := by
  obtain ⟨ys, h1, h2⟩ := hm.row
  exact h1.lt hb
theorem OM.len {B : Nat} (hm : OM K B h s ms) : s.len = ms.length := by
  obtain ⟨ys, h1, h2⟩ := hm.row
  rw [h1.len, h2.length]
theorem OM.mk' {B : Nat} (hm : OM K B h s ms) : MK K h s ms := by
  obtain ⟨ys, h1, h2⟩ := hm.row
  refine ⟨?_, ⟨ys, h1.rs len4 (by decide), h2.imp fun y m h3 => ⟨h3.1, h3.2.raise fun k hk => .inl (.inl hk)⟩⟩, fun _ k hk hb => ?_⟩
  · obtain ⟨zs, h3, h4⟩ := h1.own
    have := h4.r.cap
    simp only [Sl.sc] at this
    omega
  · have := hm.low k hk
    have := (h1.lt hb).1
    omega
theorem OM.push {B : Nat} {v : Int} {x : X3} {q : Rat} {k : Sl → Heap → Prop} (hm : OM K B h s ms) (hB : B ≤ h.size) (hx : RK (fun k => K k ∨ s.blk = some k) h x q) (hl : ms.length ≤ 1048576)
    (C : ∀ s' h', OM K B h' s' (ms ++ [(v, q)]) → Keep s.blk h h' → (s'.blk = s.blk ∨ ∀ b, s'.blk = some b → h.size ≤ b) → k s' h') :
    new [Value.int .i64 v, Value.bool x.1, Sl.toV x.2.1, Sl.toV x.2.2] h fun a h1 => aK 4 64 s (⟨some a, 1, 1⟩ : Sl) h1 k := by
  obtain ⟨ys, h1, h2⟩ := hm.row
  have hyl := h2.length
  refine h1.append1 (x := ((v, x.1, x.2.1, x.2.2) : Y4)) len4 (by decide) rfl hB rfl (by omega) fun s' h' ho' k' hb => C s' h' ⟨hm.low, _, ho', ?_⟩ k' hb
  have hall : All2 (fun y m => y.1 = m.1 ∧ RK (fun k => K k ∨ s.blk = some k) h (co y) m.2) (ys ++ [((v, x.1, x.2.1, x.2.2) : Y4)]) (ms ++ [(v, q)]) := h2.append (.cons ⟨rfl, hx⟩ .nil)
  refine hall.imp fun y m h3 => ⟨h3.1, ?_⟩
  have h4 : RK (fun k => (K k ∨ s.blk = some k) ∨ s'.blk = some k) h (co y) m.2 := h3.2.raise fun k hk => by
    rcases hk with hk | hk
    · exact .inl hk
    · rcases hb with hb | hb
      · exact .inl (.inr (hb ▸ hk))
      · exact .inr (hb k hk)
  have h5 := h4.keep k' (fun k hk => .inl (.inr hk))
  exact h5.raise fun k hk => (by
    rcases hk with hk | hk
    · exact .inl (.inl (.inl hk))
    · exact .inl (.inr hk))
end
end Go.Sh

namespace Go.Sh
open Go Go.Lift
def nzc (m : Int × Rat) (l : PL) : PL := if m.2 = 0 then l else m :: l
def mrg : PL → PL → PL
  | [], [] => []
  | a :: as, [] => nzc a (mrg as [])
  | [], b :: bs => nzc b (mrg [] bs)
  | a :: as, b :: bs => if a.1 < b.1 then nzc a (mrg as (b :: bs)) else if b.1 < a.1 then nzc b (mrg (a :: as) bs) else nzc (a.1, a.2 + b.2) (mrg as bs)
termination_by l r => l.length + r.length
def ak : PL → Int → Rat
  | [], _ => 0
  | a :: as, v => if a.1 = v then a.2 else ak as v
def scL (k : Rat) (ms : PL) : PL := ms.map fun m => (m.1, k * m.2)
def Srt (ms : PL) : Prop := ms.Pairwise fun a b => a.1 < b.1
theorem aaR {k : Rat} {m : Int × Rat} {ms : PL} : scL k (m :: ms) = (m.1, k * m.2) :: scL k ms := rfl
theorem aad {k : Rat} {q : PL} (h : Srt q) : Srt (scL k q) := by
  unfold Srt scL
  rw [List.pairwise_map]
  exact h
theorem bK {a : Int × Rat} {as : PL} {v : Int} (h : a.1 ≠ v) : ak (a :: as) v = ak as v := by simp [ak, h]
theorem pA {b : Int × Rat} {bs : PL} : mrg [] (b :: bs) = nzc b (mrg [] bs) := by rw [mrg]
theorem pJ {a : Int × Rat} {as : PL} : mrg (a :: as) [] = nzc a (mrg as []) := by rw [mrg]
theorem ct {a b : Int × Rat} {as bs : PL} : mrg (a :: as) (b :: bs) = if a.1 < b.1 then nzc a (mrg as (b :: bs)) else if b.1 < a.1 then nzc b (mrg (a :: as) bs) else nzc (a.1, a.2 + b.2) (mrg as bs) := by rw [mrg]
end Go.Sh

namespace Go.Sh
open Go Go.Lift
theorem Keep.freshB {o o' : Option Nat} {a b c : Heap} (h : Keep o a b) (hn : ∀ n, o' = some n → a.size ≤ n) (k : Keep o' b c) : Keep o a c := by
  cases o' with
  | none => exact h.trans (Keep.of_ext k)
  | some n => exact h.fresh (hn n rfl) k
structure BO (h0 : Heap) (a : Addr) (lim : Nat) (ov : Bool) (h : Heap) : Prop where
  tab : Tab h0
  bench : Bench h a lim ov
  ext : Ext h0 h
  old : h0.size ≤ a.block
section
variable {h0 h h' : Heap} {a : Addr} {lim : Nat} {ov ov' : Bool}
theorem BO.keep (hv : BO h0 a lim ov h) (hb : Bench h' a lim ov') (k : Keep (some a.block) h h') : BO h0 a lim ov' h' := ⟨hv.tab, hb, hv.ext.fresh hv.old k, hv.old⟩
theorem BO.of_ext (hv : BO h0 a lim ov h) (k : Ext h h') : BO h0 a lim ov h' := ⟨hv.tab, hv.bench.ext k, hv.ext.trans k, hv.old⟩
theorem BO.fresh (hv : BO h0 a lim ov h) {o : Option Nat} (k : Keep o h h') (ho : ∀ b, o = some b → h0.size ≤ b ∧ b ≠ a.block) : BO h0 a lim ov h' := by
  cases o with
  | none => exact hv.of_ext k
  | some b => exact ⟨hv.tab, hv.bench.keep k (by simpa using (ho b rfl).2.symm), hv.ext.fresh (ho b rfl).1 k, hv.old⟩
theorem BO.tb (hv : BO h0 a lim ov h) : TB a.block h := hv.tab.tb hv.ext hv.old
theorem BO.lt (hv : BO h0 a lim ov h) : a.block < h.size := hv.bench.lt
end
def bg (lim : Nat) (p : Rat × PL) : Bool := decide (szQ p.1 ≤ lim) && p.2.all fun m => decide (szQ m.2 ≤ lim)
def valP (ov : Bool) (p : Rat × PL) : Rat × PL := if ov then (0, []) else p
def scP (c : Rat) (p : Rat × PL) : Rat × PL := if c = 0 then (0, []) else (c * p.1, scL c p.2)
def addP (p : Rat × PL) (c : Rat) (q : Rat × PL) : Rat × PL := (p.1 + (scP c q).1, mrg p.2 (scP c q).2)
theorem bP : szQ (0 : Rat) = 0 := by
  have : szQ ((0 : Int) : Rat) = 0 := by unfold szQ; rw [zp, fj, eV]; simp [eV]
  simpa using this
section
variable {K : Nat → Prop} {h h' : Heap} {s s' : Sl}
theorem RK.push {x : X3} {q : Rat} (hx : RK (fun k => K k ∨ s.blk = some k) h x q) (e : Keep s.blk h h') (hb : s'.blk = s.blk ∨ ∀ b, s'.blk = some b → h.size ≤ b) : RK (fun k => K k ∨ s'.blk = some k) h' x q := by
  have h4 : RK (fun k => (K k ∨ s.blk = some k) ∨ s'.blk = some k) h x q := hx.raise fun k hk => by
    rcases hk with hk | hk
    · exact .inl hk
    · rcases hb with hb | hb
      · exact .inl (.inr (hb ▸ hk))
      · exact .inr (hb k hk)
  exact (h4.keep e (fun k hk => .inl (.inr hk))).raise fun k hk => (by
    rcases hk with hk | hk
    · exact .inl (.inl (.inl hk))
    · exact .inl (.inr hk))
theorem MK.push {ms : PL} {t : Sl} (hx : MK (fun k => K k ∨ s.blk = some k) h t ms) (e : Keep s.blk h h') (hb : s'.blk = s.blk ∨ ∀ b, s'.blk = some b → h.size ≤ b) : MK (fun k => K k ∨ s'.blk = some k) h' t ms := by
  have h4 : MK (fun k => (K k ∨ s.blk = some k) ∨ s'.blk = some k) h t ms := hx.raise fun k hk => by
    rcases hk with hk | hk
    · exact .inl hk
    · rcases hb with hb | hb
      · exact .inl (.inr (hb ▸ hk))
      · exact .inr (hb k hk)
  exact (h4.keep e (fun k hk => .inl (.inr hk))).raise fun k hk => (by
    rcases hk with hk | hk
    · exact .inl (.inl (.inl hk))
    · exact .inl (.inr hk))
end
section
variable {h0 h : Heap} {a : Addr} {lim : Nat} {ov : Bool}
theorem sw {x : X4} {Q : X4 → Heap → Prop} (hv : BO h0 a lim ov h) (C1 : ov = true → ∀ h', Ext h h' → Q (false, Sl.nil, Sl.nil, Sl.nil) h') (C2 : ov = false → ∀ h', Ext h h' → Q x h') : eX (some a) x h Q :=
  ae fun h1 e1 => bZ (hv.of_ext e1).bench ⟨fun ho => C1 ho h1 e1, fun ho => C2 ho h1 e1⟩
theorem od {K : Nat → Prop} {x k : X3} {q c : Rat} {b1 k1 : Addr} {Q : X3 → Heap → Prop} (hv : BO h0 a lim ov h) (hb : cell? h b1 = some (.pointer (some a))) (hk1 : cells? h k1 3 0 = some (aA k)) (hk : RQ h k c) (hx : RQ h x q) (hs : szQ c + szQ q ≤ 3000)
    (hK : ∀ k, K k → k < h.size)
    (C : ∀ r h', BO h0 a lim (ov || decide (lim < szQ (c * q))) h' → Keep (some a.block) h h' → RK K h' r (val' (ov || decide (lim < szQ (c * q))) (c * q)) → Q r h') : ck x b1 k1 h Q := by
  refine ae fun h1 e1 => ⟨_, ag e1 hb (by simp), k, cx e1 hk1, ?_⟩
  have v1 := hv.of_ext e1
  refine sZ v1.tb v1.bench (hk.ext e1) (hx.ext e1) hs fun r h' hb' k' hr hf => ?_
  exact C r h' (v1.keep hb' k') ((Keep.of_ext e1).trans k') (RK.fresh hr.rq hf fun k hk => Nat.lt_of_lt_of_le (hK k hk) e1.size)
end
end Go.Sh

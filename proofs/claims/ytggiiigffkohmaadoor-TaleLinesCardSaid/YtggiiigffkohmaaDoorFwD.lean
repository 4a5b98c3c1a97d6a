/-
  Laws that the proof of this claim's statement leans on, each proved under the conditions that it states.
-/
import Derived.Test.YtggiiigffkohmaaDoorFwC
import Derived.Lib.Builder
import Derived.Lib.Split
import Derived.Lib.Join
import Derived.Lib.ItoaNum
import Derived.Lib.LaidTab
import Derived.Lib.AtoiAll
import Derived.Lib.AtoiAllCases
import Derived.Lib.AppendStr
import Derived.Lib.UnsafeStr
import Derived.Sort.Grow
set_option linter.unusedVariables false
set_option linter.unusedSimpArgs false
namespace Go.Lift
open Go
structure Keep (o : Option Nat) (h h' : Heap) : Prop where
  size : h.size ≤ h'.size
  same : ∀ b, b < h.size → some b ≠ o → h'[b]? = h[b]?
abbrev Ext (h h' : Heap) : Prop := Keep none h h'
theorem Keep.refl (o : Option Nat) (h : Heap) : Keep o h h := ⟨Nat.le_refl _, fun _ _ _ => rfl⟩
theorem Keep.trans {o : Option Nat} {a b c : Heap} (h : Keep o a b) (k : Keep o b c) : Keep o a c :=
  ⟨Nat.le_trans h.size k.size, fun i hi hne => (k.same i (Nat.lt_of_lt_of_le hi h.size) hne).trans (h.same i hi hne)⟩
theorem Keep.of_ext {o : Option Nat} {a b : Heap} (h : Ext a b) : Keep o a b := ⟨h.size, fun i hi _ => h.same i hi (by simp)⟩
theorem Keep.fresh {o : Option Nat} {a b c : Heap} (h : Keep o a b) {n : Nat} (hn : a.size ≤ n) (k : Keep (some n) b c) : Keep o a c :=
  ⟨Nat.le_trans h.size k.size, fun i hi hne => (k.same i (Nat.lt_of_lt_of_le hi h.size) (by simp; omega)).trans (h.same i hi hne)⟩
theorem Ext.push (h : Heap) (o : Obj) : Ext h (h.push o) :=
  ⟨by simp, fun b hb _ => by rw [Array.getElem?_push]; simp [Nat.ne_of_lt hb]⟩
theorem Keep.setCell (h : Heap) (a : Addr) (v : Value) : Keep (some a.block) h (setCell h a v) :=
  ⟨by simp [Lift.setCell], fun b _ hne => by
    have : a.block ≠ b := fun e => hne (by rw [e])
    simp [Lift.setCell, Array.getElem?_modify, this]⟩
theorem cell_lt {h : Heap} {a : Addr} {v : Value} (hc : cell? h a = some v) : a.block < h.size := by
  unfold cell? at hc
  cases hb : h[a.block]? with
  | none => simp [hb] at hc
  | some o => exact (Array.getElem?_eq_some_iff.1 hb).1
theorem cell_keep {o : Option Nat} {h h' : Heap} (k : Keep o h h') {a : Addr} {v : Value} (hc : cell? h a = some v) (hne : some a.block ≠ o) : cell? h' a = some v := by
  have := k.same a.block (cell_lt hc) hne
  unfold cell? at hc ⊢
  rw [this]; exact hc
theorem frozen_keep {o : Option Nat} {h h' : Heap} (k : Keep o h h') {a : Addr} {f : Bool} (hl : a.block < h.size) (hf : frozen? h a = f) (hne : some a.block ≠ o) : frozen? h' a = f := by
  have := k.same a.block hl hne
  unfold frozen? at hf ⊢
  rw [this]; exact hf
theorem addr_add (a : Addr) (i : Nat) (hs : a.spot = none) : a.add i = ⟨a.block, a.off + i, none⟩ := by
  unfold Addr.add
  split
  · rename_i h; subst h; cases a; simp_all
  · rfl
theorem addr_add_block (a : Addr) (i : Nat) : (a.add i).block = a.block := by unfold Addr.add; split <;> rfl
theorem addr_add_add (a : Addr) (i j : Nat) : (a.add i).add j = a.add (i + j) := by
  unfold Addr.add
  by_cases hi : i = 0
  · simp [hi]
  · by_cases hj : j = 0
    · simp [hj]
    · have : i + j ≠ 0 := by omega
      simp [hi, hj, Nat.add_assoc]
structure R {α : Type} (toV : α → Value) (h : Heap) (s : Sl) (xs : List α) : Prop where
  len : s.len = xs.length
  cap : s.len ≤ s.cap
  cells : cellsO? h s.a s.len = some (xs.map toV)
theorem cells?_get {h : Heap} {a : Addr} : ∀ (n i : Nat) (l : List Value), cells? h a n i = some l → ∀ j (hj : j < l.length), cell? h (a.add (i + j)) = some l[j] := by
  intro n
  induction n with
  | zero => intro i l hc j hj; simp [cells?] at hc; subst hc; simp at hj
  | succ n ih =>
    intro i l hc j hj
    simp only [cells?] at hc
    split at hc
    · rename_i v r h1 h2
      simp only [Option.some.injEq] at hc; subst hc
      cases j with
      | zero => simpa using h1
      | succ j =>
        have := ih (i + 1) r h2 j (by simpa using hj)
        simp only [List.getElem_cons_succ]
        rw [← this]
        congr 2
        omega
    · cases hc
theorem cells?_mk {h : Heap} {a : Addr} : ∀ (l : List Value) (i : Nat), (∀ j (hj : j < l.length), cell? h (a.add (i + j)) = some l[j]) → cells? h a l.length i = some l := by
  intro l
  induction l with
  | nil => intro i _; rfl
  | cons v l ih =>
    intro i hc
    have h0 := hc 0 (by simp)
    simp only [Nat.add_zero, List.getElem_cons_zero] at h0
    have h1 := ih (i + 1) (fun j hj => by
      have := hc (j + 1) (by simpa using hj)
      simp only [List.getElem_cons_succ] at this
      rw [← this]
      congr 2
      omega)
    simp only [List.length_cons, cells?, h0, h1]
variable {α : Type} {toV : α → Value} {h h' : Heap} {s : Sl} {xs : List α}
theorem R.get (hr : R toV h s xs) {i : Nat} (hi : i < xs.length) : ∃ a, s.a = some a ∧ cell? h (a.add i) = some (toV xs[i]) := by
  have hc := hr.cells
  cases ha : s.a with
  | none =>
    rw [ha] at hc
    simp only [cellsO?, Option.some.injEq] at hc
    have : xs = [] := by cases xs with
      | nil => rfl
      | cons x xs => simp at hc
    subst this; simp at hi
  | some a =>
    rw [ha] at hc
    simp only [cellsO?] at hc
    refine ⟨a, rfl, ?_⟩
    have := cells?_get _ 0 _ hc i (by simpa using hi)
    simpa using this
theorem R.mk' (hl : s.len = xs.length) (hcap : s.len ≤ s.cap) (a : Addr) (ha : s.a = some a) (hc : ∀ i (hi : i < xs.length), cell? h (a.add i) = some (toV xs[i])) : R toV h s xs := by
  refine ⟨hl, hcap, ?_⟩
  rw [ha, hl]
  show cells? h a xs.length 0 = _
  have := cells?_mk (h := h) (a := a) (xs.map toV) 0 (fun j hj => by
    have := hc j (by simpa using hj)
    simpa using this)
  simpa using this
theorem R.nil : R toV h Sl.nil ([] : List α) := ⟨rfl, Nat.le_refl _, rfl⟩
theorem R.nil_of (hl : s.len = 0) : R toV h s ([] : List α) := by
  refine ⟨by simpa using hl, by omega, ?_⟩
  rw [hl]
  cases s.a <;> rfl
theorem R.keep (hr : R toV h s xs) {o : Option Nat} (k : Keep o h h') (hne : ∀ a, s.a = some a → some a.block ≠ o) : R toV h' s xs := by
  cases ha : s.a with
  | none =>
    refine ⟨hr.len, hr.cap, ?_⟩
    have := hr.cells
    rw [ha] at this ⊢
    exact this
  | some a =>
    refine R.mk' hr.len hr.cap a ha (fun i hi => ?_)
    obtain ⟨a', ha', hc⟩ := hr.get hi
    rw [ha] at ha'; cases ha'
    exact cell_keep k hc (by rw [addr_add_block]; exact hne a ha)
theorem R.ext (hr : R toV h s xs) (k : Ext h h') : R toV h' s xs := hr.keep k (fun _ _ => by simp)
theorem R.lt (hr : R toV h s xs) {a : Addr} (ha : s.a = some a) (hne : xs ≠ []) : a.block < h.size := by
  have : 0 < xs.length := by cases xs with
    | nil => exact absurd rfl hne
    | cons x xs => simp
  obtain ⟨a', ha', hc⟩ := hr.get this
  rw [ha] at ha'; cases ha'
  have := cell_lt hc
  rwa [addr_add_block] at this
theorem R.keepB (hr : R toV h s xs) {n : Nat} (k : Keep (some n) h h') (hn : ∀ a, s.a = some a → xs ≠ [] → a.block ≠ n) : R toV h' s xs := by
  by_cases hx : xs = []
  · subst hx
    exact R.nil_of hr.len |> fun r => ⟨hr.len, hr.cap, r.cells⟩
  · exact hr.keep k (fun a ha => by
      have := hn a ha hx
      simp [this])
theorem R.idx (hr : R toV h s xs) {i : Int} {k : Addr → Prop} (h0 : 0 ≤ i) (h1 : i < xs.length) (K : ∀ a, s.a = some a → cell? h (a.add i.toNat) = some (toV (xs[i.toNat]'(by omega))) → k (a.add i.toNat)) : idxS s i 1 k := by
  obtain ⟨a, ha, hc⟩ := hr.get (i := i.toNat) (by omega)
  refine ⟨a, ha, ⟨h0, by rw [hr.len]; exact h1⟩, ?_⟩
  rw [Nat.mul_one]
  exact K a ha hc
theorem R.load (hr : R toV h s xs) {i : Int} {k : α → Prop} (h0 : 0 ≤ i) (h1 : i < xs.length) (K : k (xs[i.toNat]'(by omega))) : idxS s i 1 fun a => Lift.load toV a h k :=
  hr.idx h0 h1 fun _ _ hc => ⟨_, hc, K⟩
structure Own {α : Type} (toV : α → Value) (B : Nat) (h : Heap) (s : Sl) (xs : List α) : Prop where
  r : R toV h s xs
  own : (s.a = none ∧ s.cap = 0) ∨ ∃ b c T, s.a = some ⟨b, 0, none⟩ ∧ B ≤ b ∧ h[b]? = some (.cells c T (0, 0)) ∧ s.cap ≤ c.size
def Sl.blk (s : Sl) : Option Nat := s.a.map (·.block)
theorem Own.nil {B : Nat} : Own toV B h Sl.nil ([] : List α) := ⟨R.nil, .inl ⟨rfl, rfl⟩⟩
theorem Own.mono {B C : Nat} (ho : Own toV B h s xs) (hc : C ≤ B) : Own toV C h s xs := ⟨ho.r, ho.own.imp id fun ⟨b, c, T, h1, h2, h3, h4⟩ => ⟨b, c, T, h1, by omega, h3, h4⟩⟩
theorem Own.lt {B : Nat} (ho : Own toV B h s xs) {b : Nat} (hb : s.blk = some b) : B ≤ b ∧ b < h.size := by
  rcases ho.own with ⟨h1, _⟩ | ⟨b', c, T, h1, h2, h3, _⟩
  · simp [Sl.blk, h1] at hb
  · simp [Sl.blk, h1] at hb
    subst hb
    exact ⟨h2, (Array.getElem?_eq_some_iff.1 h3).1⟩
theorem Own.keep {B : Nat} (ho : Own toV B h s xs) {o : Option Nat} (k : Keep o h h') (hne : ∀ b, s.blk = some b → some b ≠ o) : Own toV B h' s xs := by
  refine ⟨ho.r.keep k (fun a ha => hne a.block (by simp [Sl.blk, ha])), ?_⟩
  rcases ho.own with h1 | ⟨b, c, T, h1, h2, h3, h4⟩
  · exact .inl h1
  · refine .inr ⟨b, c, T, h1, h2, ?_, h4⟩
    rw [k.same b (Array.getElem?_eq_some_iff.1 h3).1 (hne b (by simp [Sl.blk, h1]))]
    exact h3
theorem Own.ext {B : Nat} (ho : Own toV B h s xs) (k : Ext h h') : Own toV B h' s xs := ho.keep k (fun _ _ => by simp)
theorem cell_push_new (h : Heap) (c : Array Value) (T : Nat) (f : Nat × Nat) (i : Nat) : cell? (h.push (.cells c T f)) ⟨h.size, i, none⟩ = c[i]? := by
  unfold cell?
  simp
theorem cell_push_new_add (h : Heap) (c : Array Value) (T : Nat) (f : Nat × Nat) (i : Nat) : cell? (h.push (.cells c T f)) ((⟨h.size, 0, none⟩ : Addr).add i) = c[i]? := by
  rw [addr_add _ _ rfl]
  simp [cell_push_new]
theorem Own.new {ys : List α} {cs : List Value} {T : Nat} (hcs : cs = ys.map toV) : Own toV h.size (h.push (.cells cs.toArray T (0, 0))) ⟨some ⟨h.size, 0, none⟩, ys.length, ys.length⟩ ys := by
  subst hcs
  refine ⟨R.mk' rfl (Nat.le_refl _) ⟨h.size, 0, none⟩ rfl (fun i hi => ?_), .inr ⟨h.size, (ys.map toV).toArray, T, rfl, Nat.le_refl _, by simp, by simp⟩⟩
  rw [cell_push_new_add]
  simp [hi]
theorem setCells_keep (a : Addr) : ∀ (vs : List Value) (i : Nat) (h : Heap), Keep (some a.block) h (setCells h a vs i) := by
  intro vs
  induction vs with
  | nil => intro i h; exact Keep.refl _ _
  | cons v vs ih =>
    intro i h
    have := Keep.setCell h (a.add i) v
    rw [addr_add_block] at this
    exact this.trans (ih (i + 1) _)
theorem one_of (hone : ∀ x : α, one (toV x) = true) (ys : List α) : oneCells (ys.map toV) = true := by
  simp [oneCells, hone]
theorem block_set {h : Heap} {b i : Nat} {c : Array Value} {T : Nat} {f : Nat × Nat} (hb : h[b]? = some (.cells c T f)) (v : Value) :
    (setCell h ⟨b, i, none⟩ v)[b]? = some (.cells (c.setIfInBounds i v) T f) := by
  simp [setCell, Array.getElem?_modify, hb]
theorem frozen_none {h : Heap} {b i : Nat} {c : Array Value} {T : Nat} (hb : h[b]? = some (.cells c T (0, 0))) : frozen? h ⟨b, i, none⟩ = false := by
  unfold frozen?
  simp [hb]
theorem setCells_block {b : Nat} {T : Nat} : ∀ (vs : List Value) (o i : Nat) (h : Heap) (c : Array Value), h[b]? = some (.cells c T (0, 0)) → o + i + vs.length ≤ c.size →
    ∃ c', (setCells h ((⟨b, o, none⟩ : Addr)) vs i)[b]? = some (.cells c' T (0, 0)) ∧ c'.size = c.size ∧ (∀ j, j < o + i → c'[j]? = c[j]?) ∧ (∀ j (hj : j < vs.length), c'[o + i + j]? = some vs[j]) ∧ canSet h ⟨b, o, none⟩ vs.length i := by
  intro vs
  induction vs with
  | nil => intro o i h c hb _; exact ⟨c, hb, rfl, fun _ _ => rfl, fun j hj => by simp at hj, trivial⟩
  | cons v vs ih =>
    intro o i h c hb hle
    simp only [List.length_cons] at hle
    have ha : ((⟨b, o, none⟩ : Addr)).add i = ⟨b, o + i, none⟩ := addr_add _ _ rfl
    have hcell : cell? h ⟨b, o + i, none⟩ = some (c[o + i]'(by omega)) := by
      unfold cell?
      simp [hb]
    have hb' := block_set hb v (i := o + i)
    obtain ⟨c', h1, h2, h3, h4, h5⟩ := ih o (i + 1) (setCell h ⟨b, o + i, none⟩ v) (c.setIfInBounds (o + i) v) hb' (by simp; omega)
    refine ⟨c', ?_, by simpa using h2, ?_, ?_, ?_⟩
    · simp only [setCells, ha]; exact h1
    · intro j hj
      rw [h3 j (by omega)]
      rw [Array.getElem?_setIfInBounds_ne (by omega)]
    · intro j hj
      cases j with
      | zero =>
        rw [h3 (o + i + 0) (by omega)]
        simp only [Nat.add_zero, List.getElem_cons_zero]
        rw [Array.getElem?_setIfInBounds]
        simp; omega
      | succ j =>
        have := h4 j (by simpa using hj)
        simp only [List.getElem_cons_succ]
        rw [← this]
        congr 1
        omega
    · refine ⟨⟨_, by rw [ha]; exact hcell⟩, by rw [ha]; exact frozen_none hb, ?_⟩
      -- what may be set afterwards may be set before
      have : ∀ (n k : Nat), o + k + n ≤ c.size → canSet h ⟨b, o, none⟩ n k := by
        intro n
        induction n with
        | zero => intro k _; trivial
        | succ n ihn =>
          intro k hk
          refine ⟨?_, ?_, ihn (k + 1) (by omega)⟩
          · rw [addr_add _ _ rfl]
            refine ⟨c[o + k]'(by omega), ?_⟩
            unfold cell?
            simp [hb]
          · rw [addr_add _ _ rfl]; exact frozen_none hb
      exact this vs.length (i + 1) (by omega)
theorem Own.append {B bytes : Nat} {ys : List α} {x : Sl} {k : Sl → Heap → Prop} (ho : Own toV B h s xs) (hB : B ≤ h.size) (hx : R toV h x ys) (hone : ∀ x : α, one (toV x) = true) (hb : (xs.length + ys.length) * bytes ≤ 2 ^ 46)
    (K : ∀ s' h', Own toV B h' s' (xs ++ ys) → Keep s.blk h h' → (s'.blk = s.blk ∨ s'.blk = some h.size ∧ h'.size = h.size + 1) → k s' h') : appendS 1 bytes s x h k := by
  refine ⟨ys.map toV, by rw [Nat.mul_one]; exact hx.cells, one_of hone ys, by rw [ho.r.len, hx.len]; exact hb, ?_, ?_⟩
  · intro hfit
    rcases ho.own with ⟨ha, hcap⟩ | ⟨b, c, T, ha, hBb, hblk, hcs⟩
    · have h1 : s.len = 0 := by have := ho.r.cap; omega
      have h2 : x.len = 0 := by omega
      have hys : ys = [] := List.eq_nil_of_length_eq_zero (by rw [← hx.len]; exact h2)
      subst hys
      simp only [ha]
      refine K _ _ ⟨⟨by simp [ho.r.len, h2], by simpa using hfit, ?_⟩, .inl ⟨rfl, hcap⟩⟩ (Keep.refl _ _) (.inl (by simp [Sl.blk, ha]))
      have := ho.r.cells
      rw [ha] at this
      simp only [cellsO?] at this ⊢
      simpa using this
    · have hlen := ho.r.len
      have hxl := hx.len
      simp only [ha, Nat.mul_one]
      rw [addr_add _ _ rfl]
      simp only [Nat.zero_add]
      obtain ⟨c', h1, h2, h3, h4, h5⟩ := setCells_block (T := T) (ys.map toV) s.len 0 h c hblk (by simp; omega)
      refine ⟨h5, K _ _ ⟨R.mk' (by simp [hlen, hxl]) (by simpa using hfit) ⟨b, 0, none⟩ rfl ?_, .inr ⟨b, c', T, rfl, hBb, h1, by simp [h2]; omega⟩⟩ ?_ (.inl (by simp [Sl.blk, ha]))⟩
      · intro i hi
        rw [addr_add _ _ rfl]
        unfold cell?
        simp only [h1, Nat.zero_add, Option.isSome_none, Bool.false_eq_true, if_false]
        by_cases hlt : i < xs.length
        · rw [h3 i (by omega)]
          obtain ⟨a', ha', hc⟩ := ho.r.get hlt
          rw [ha] at ha'; cases ha'
          rw [addr_add _ _ rfl] at hc
          unfold cell? at hc
          simp [hblk] at hc
          rw [hc]
          simp [List.getElem_append, hlt]
        · have hj : i - xs.length < ys.length := by simp at hi; omega
          have := h4 (i - xs.length) (by simpa using hj)
          rw [show s.len + 0 + (i - xs.length) = i from by omega] at this
          rw [this]
          simp [List.getElem_append, hlt]
      · have := setCells_keep ⟨b, s.len, none⟩ (ys.map toV) 0 h
        simpa [Sl.blk, ha] using this
  · intro hgrow
    refine ⟨xs.map toV, by rw [Nat.mul_one]; exact ho.r.cells, ?_⟩
    intro cap T rest hcap hrest
    refine K _ _ ⟨R.mk' (by simp [ho.r.len, hx.len]) (by simpa using hcap) ⟨h.size, 0, none⟩ rfl ?_, .inr ⟨h.size, _, T, rfl, hB, by simp; rfl, ?_⟩⟩ (Keep.of_ext (Ext.push _ _)) (.inr ⟨by simp [Sl.blk], by simp⟩)
    · intro i hi
      rw [cell_push_new_add]
      have hi' : i < (xs.map toV ++ ys.map toV).length := by simpa using hi
      simp only [List.getElem?_toArray]
      rw [List.getElem?_append_left hi', List.getElem?_eq_getElem hi']
      simp [← List.map_append]
    · have h1 := ho.r.len
      have h2 := hx.len
      simp [hrest]
      omega
theorem Own.store {B : Nat} (ho : Own toV B h s xs) {i : Nat} (hi : i < xs.length) {a : Addr} (ha : s.a = some a) (y : α) {k : Heap → Prop}
    (K : ∀ h', Own toV B h' s (xs.set i y) → Keep s.blk h h' → h'.size = h.size → k h') : Lift.store (a.add i) (toV y) h k := by
  obtain ⟨a', ha', hc⟩ := ho.r.get hi
  rw [ha] at ha'; cases ha'
  rcases ho.own with ⟨h1, _⟩ | ⟨b, c, T, h1, h2, h3, h4⟩
  · rw [h1] at ha; cases ha
  · rw [h1] at ha; cases ha
    have hai : (({ block := b, off := 0, spot := none } : Addr)).add i = ⟨b, i, none⟩ := by rw [addr_add _ _ rfl]; simp
    rw [hai] at hc ⊢
    refine ⟨⟨_, hc⟩, frozen_none h3, K _ ⟨R.mk' (by simp [ho.r.len]) ho.r.cap _ h1 ?_, .inr ⟨b, _, T, h1, h2, block_set h3 _, by simpa using h4⟩⟩ ?_ (by simp [setCell])⟩
    · intro j hj
      have hj' : j < xs.length := by simpa using hj
      rw [addr_add _ _ rfl]
      simp only [Nat.zero_add]
      by_cases e : i = j
      · subst e
        rw [cell_set_same hc]
        simp
      · rw [cell_set_ne (.inr (.inl e))]
        obtain ⟨a'', ha'', hc''⟩ := ho.r.get hj'
        rw [h1] at ha''; cases ha''
        rw [addr_add _ _ rfl] at hc''
        simp only [Nat.zero_add] at hc''
        rw [hc'']
        simp [List.getElem_set, e]
    · have := Keep.setCell h ⟨b, i, none⟩ (toV y)
      simpa [Sl.blk, h1] using this
theorem R.take (hr : R toV h s xs) {i : Int} {k : Sl → Prop} (h0 : 0 ≤ i) (h1 : i ≤ xs.length) (K : ∀ s', R toV h s' (xs.take i.toNat) → s'.blk = s.blk → s'.a = s.a ∨ s'.len = 0 → s'.len ≤ s.len → k s') : sliceOf s none (some i) none 1 k := by
  have hl := hr.len
  have hcap := hr.cap
  refine ⟨⟨by simp, by simp⟩, ⟨h0, .inr (by simp; omega)⟩, ⟨by simp, by simpa using h0⟩, ?_⟩
  simp only [Option.getD_none, Option.getD_some, Int.toNat_zero, Nat.sub_zero, Nat.zero_mul]
  have hadd : ∀ o : Option Addr, o.map (fun a => a.add 0) = o := by
    intro o; cases o <;> simp [Addr.add]
  have heq : (if (s.cap : Int) = 0 then s.a else s.a.map (fun a => a.add 0)) = s.a := by rw [hadd]; simp
  rw [heq]
  refine K _ ?_ rfl (.inl rfl) (by simp; omega)
  cases ha : s.a with
  | none =>
    have hx : xs = [] := by
      have := hr.cells; rw [ha] at this
      simp only [cellsO?, Option.some.injEq] at this
      cases xs with
      | nil => rfl
      | cons x xs => simp at this
    subst hx
    refine ⟨?_, ?_, ?_⟩
    · simp at h1 ⊢; omega
    · simp; simp at h1; omega
    · simp [cellsO?]
  | some a =>
    refine R.mk' ?_ ?_ a rfl ?_
    · simp; omega
    · simp; omega
    · intro j hj
      simp only [List.length_take] at hj
      obtain ⟨a', ha', hc⟩ := hr.get (i := j) (by omega)
      rw [ha] at ha'; cases ha'
      rw [hc]
      simp
end Go.Lift

namespace Go.Lift
open Go Go.RowKit
def behind (m : Heap) (H : Heap) : Heap := m ++ H.extract m.size H.size
theorem behind_old {m H : Heap} {k : Nat} (hk : k < m.size) : (behind m H)[k]? = m[k]? := by
  unfold behind
  rw [Array.getElem?_append_left hk]
theorem behind_new {m H : Heap} {k : Nat} (hk : m.size ≤ k) : (behind m H)[k]? = H[k]? := by
  unfold behind
  rw [Array.getElem?_append_right hk, Array.getElem?_extract]
  split
  · congr 1; omega
  · rename_i h
    rw [Array.getElem?_eq_none]
    omega
theorem behind_size {m H : Heap} (hs : m.size ≤ H.size) : (behind m H).size = H.size := by
  unfold behind
  simp; omega
theorem behind_ext (m H : Heap) : MExt m (behind m H) := ⟨by unfold behind; simp, fun b hb => behind_old hb⟩
theorem calls_below {α : Type} {P : Program} {f : FuncId} {vs : Array Value} {toV : α → Value} {S : α → Heap → Prop} {w : World} {m : Heap} (hr : Rel ⟨m, []⟩ w.heap) {G : α → World → Prop}
    (hc : Calls P f vs w fun e w' => ∃ r, e = .returned (toV r) ∧ Below w.heap.size w w' ∧ G r w') (hk : ∀ r w', G r w' → Below w.heap.size w w' → S r (behind m w'.heap)) : Calls P f vs w (Post ⟨w, m⟩ toV S) := by
  refine hc.mono ?_
  rintro e w' ⟨r, rfl, hb, hg⟩
  have hs : w.heap.size = m.size := hr.size
  have hz := hb.size
  refine ⟨r, behind m w'.heap, rfl, ⟨hb.os, hb.output, hb.tape, ⟨(behind_size (by omega)).symm, fun b => ?_, fun b cs hm => by simp at hm, by simp⟩, fun b hj => ?_, fun b cs hm => by simp at hm, ?_⟩, hk r w' hg hb⟩
  · dsimp only
    rcases Nat.lt_or_ge b m.size with hlt | hge
    · rw [behind_old hlt, hb.block b (by omega)]
      exact hr.same b
    · right; exact (behind_new hge).symm
  · dsimp only at hj ⊢
    have hlt : b < m.size := by
      rcases Nat.lt_or_ge b m.size with h | h
      · exact h
      · rw [Array.getElem?_eq_none h] at hj; cases hj
    exact ⟨by rw [behind_old hlt]; exact hj, hb.block b (by omega)⟩
  · dsimp only
    rw [behind_size (by omega)]; omega
theorem below_grow {w : World} {k : Nat} {os : Array Obj} : Below w.heap.size w (Sort.grow (w.drewN k) os) := by
  have h1 : ∀ (w : World) k, (w.drewN k).heap = w.heap ∧ (w.drewN k).os = w.os ∧ (w.drewN k).tape = w.tape ∧ (w.drewN k).output = w.output := fun w k => by
    refine ⟨?_, ?_, ?_, ?_⟩ <;> simp [World.drewN]
  obtain ⟨a, b, c, d⟩ := h1 w k
  refine ⟨b, c, d, ?_, fun i hi => ?_⟩
  · show w.heap.size ≤ ((w.drewN k).heap ++ os).size
    rw [a]; simp
  · show ((w.drewN k).heap ++ os)[i]? = _
    rw [a, Array.getElem?_append_left hi]
def RowH (h : Heap) (e B : Nat) (v : Value) (n : Nat) (xs : List Value) : Prop :=
  xs.length = n ∧ ((v = .slice none 0 0 ∧ n = 0) ∨ ∃ g cap cur, v = .slice (some ⟨g, 0, none⟩) n cap ∧ B ≤ g ∧ h[g]? = some (.cells cur e (0, 0)) ∧ n ≤ cap ∧ cap ≤ maxLen ∧ cur.size = cap ∧ cur.toList.take n = xs)
def BldH (T e : Nat) (h : Heap) (b : Nat) (bs : List Value) : Prop :=
  ∃ p v, (p = .pointer none ∨ p = .pointer (some ⟨b, 0, none⟩)) ∧ h[b]? = some (.cells #[p, v] T (0, 0)) ∧ RowH h e b v bs.length bs ∧ v.ownBlock ≠ some b
theorem BldH.is {T e b : Nat} {h : Hp} {w : World} {bs : List Value} (q : BldH T e h.m b bs) (hr : Rel h w.heap) : Lib.IsBuilder T e b b bs w := by
  obtain ⟨p, v, hp, hb, ⟨hl, hv⟩, hne⟩ := q
  have hb' := hr.cellsAt hb
  have hw : w.ownsRow b e 1 v bs.length bs := by
    refine ⟨by simp, ?_⟩
    rcases hv with hv | ⟨g, cap, cur, h1, h2, h3, h4, h5, h6, h7⟩
    · exact .inl hv
    · exact .inr ⟨g, cap, cur, h1, h2, hr.cellsAt h3, h4, h5, by omega, by simpa using h7⟩
  rcases hp with rfl | rfl
  · exact .inl ⟨Nat.le_refl _, v, hb', hw, hne⟩
  · exact .inr ⟨Nat.le_refl _, v, hb', hw, hne⟩
theorem BldH.of {T e b : Nat} {w : World} {h : Heap} {bs : List Value} (q : Lib.BuilderAt T e b b (.pointer (some ⟨b, 0, none⟩)) bs w) (hh : ∀ k, b ≤ k → h[k]? = w.heap[k]?) : BldH T e h b bs := by
  obtain ⟨_, v, hb, ⟨hl, hv⟩, hne⟩ := q
  refine ⟨_, v, .inr rfl, by rw [hh b (Nat.le_refl _)]; exact hb, ⟨rfl, ?_⟩, hne⟩
  rcases hv with hv | ⟨g, cap, cur, h1, h2, h3, h4, h5, h6, h7⟩
  · exact .inl hv
  · exact .inr ⟨g, cap, cur, h1, h2, by rw [hh g h2]; exact h3, h4, h5, by omega, by simpa using h7⟩
theorem BldH.new {T e : Nat} {h : Heap} : BldH T e (h.push (.cells #[.pointer none, .slice none 0 0] T (0, 0))) h.size [] :=
  ⟨_, _, .inl rfl, by simp, ⟨rfl, .inl ⟨rfl, rfl⟩⟩, by simp [Value.ownBlock]⟩
def newT (T : Nat) (cs : List Value) (h : Heap) (k : Addr → Heap → Prop) : Prop := k ⟨h.size, 0, none⟩ (h.push (.cells cs.toArray T (0, 0)))
def bldW (T e n0 : Nat) (a : Option Addr) (s : ByteArray) (h : Heap) (k : Heap → Prop) : Prop :=
  ∃ b bs, a = some ⟨b, 0, none⟩ ∧ n0 ≤ b ∧ BldH T e h b bs ∧ bs.length + s.size ≤ 140737488355328 ∧ ∀ h', h.size ≤ h'.size → (∀ i, i < b → h'[i]? = h[i]?) → BldH T e h' b (bs ++ Lib.strCells s) → k h'
def bldS (T e n0 : Nat) (a : Option Addr) (h : Heap) (k : ByteArray → Heap → Prop) : Prop :=
  ∃ b l, a = some ⟨b, 0, none⟩ ∧ n0 ≤ b ∧ BldH T e h b (Lib.byteCells l) ∧ ∀ h', h.size ≤ h'.size → (∀ i, i < b → h'[i]? = h[i]?) → k ⟨l.toArray⟩ h'
def cut (b : Nat) (m H : Heap) : Heap := m.extract 0 b ++ H.extract b H.size
theorem cut_old {b : Nat} {m H : Heap} {k : Nat} (hb : b ≤ m.size) (hk : k < b) : (cut b m H)[k]? = m[k]? := by
  unfold cut
  rw [Array.getElem?_append_left (by simp; omega), Array.getElem?_extract, if_pos (by omega)]
  simp
theorem cut_new {b : Nat} {m H : Heap} {k : Nat} (hb : b ≤ m.size) (hk : b ≤ k) : (cut b m H)[k]? = H[k]? := by
  unfold cut
  have hs : (m.extract 0 b).size = b := by simp; omega
  rw [Array.getElem?_append_right (by omega), Array.getElem?_extract, hs]
  split
  · congr 1; omega
  · rw [Array.getElem?_eq_none]; omega
theorem cut_size {b : Nat} {m H : Heap} (hb : b ≤ m.size) (hs : b ≤ H.size) : (cut b m H).size = H.size := by
  unfold cut
  simp; omega
theorem InW.below {B : Base} {m : Heap} {w w' : World} {b : Nat} (hi : InW B ⟨m, []⟩ w) (hB : B.h.size ≤ b) (hbm : b < m.size) (hb : Below b w w') : InW B ⟨cut b m w'.heap, []⟩ w' := by
  have hs : w.heap.size = m.size := hi.rel.size
  have hz := hb.size
  refine ⟨hb.os.trans hi.os, hb.output.trans hi.out, hb.tape.trans hi.tape, ⟨(cut_size (by omega) (by omega)).symm, fun k => ?_, fun b cs hm => by simp at hm, by simp⟩, fun k hj => ?_, fun b cs hm => by simp at hm, ?_⟩
  · dsimp only
    rcases Nat.lt_or_ge k b with hlt | hge
    · rw [cut_old (by omega) hlt, hb.block k hlt]
      exact hi.rel.same k
    · right; exact (cut_new (by omega) hge).symm
  · dsimp only
    have hlt : k < b := by
      rcases Nat.lt_or_ge k B.h.size with h | h
      · omega
      · rw [Array.getElem?_eq_none h] at hj; cases hj
    obtain ⟨h1, h2⟩ := hi.keep k hj
    exact ⟨by rw [cut_old (by omega) hlt]; exact h1, by rw [hb.block k hlt]; exact h2⟩
  · dsimp only
    rw [cut_size (by omega) (by omega)]
    have := hi.grow
    dsimp only at this
    omega
section
variable {P : Program} {TB : TTab} {n : Nat} {L : Frm} {m0 : Heap} {pv0 : List (Nat × List Value)} {o : Oper} {B : Base}
variable {h : Hp}
theorem Quiet1.sliceStrK {kd : IntKind} {t : Nat} {x : Operand} {lo hi : Option Operand} {s : ByteArray} {lo' hi' : Option Int} {k : ByteArray → Prop} (hT : TTab.Ok P TB) (hop : o.op = .slice t x lo hi none) (ht : TB.desc t = some .string)
    (hx : L.ev x = some (.string s)) (hlo : lo.map L.ev = lo'.map (fun j => some (.int kd j))) (hhi : hi.map L.ev = hi'.map (fun j => some (.int kd j)))
    (H : Lift.sliceStr s lo' hi' k) : ∃ r, Quiet1 P n L h o (.string r) ∧ k r := by
  obtain ⟨⟨e0, e1⟩, ⟨b0, b1⟩, hk⟩ := H
  refine ⟨_, ?_, hk⟩
  intro ac w ha hw
  have ev : ∀ {x : Operand} {u : Value}, L.ev x = some u → ac.eval x = u := fun hx => ha.eval hx
  have conv : ∀ (p : Option Operand) (q : Option Int), p.map L.ev = q.map (fun j => some (.int kd j)) → p.map ac.eval = q.map (fun j => Value.int kd j) := by
    intro p q hpq
    cases p <;> cases q <;> simp at hpq ⊢
    exact ev hpq
  have bnd : ∀ (j : Int) (y : Nat) (c : BoundsCode), 0 ≤ j → j ≤ y → (Instr.sliceBound (.int kd j) y c).run P w = .ok j.toNat w := by
    intro j y c h1 h2
    simp [Instr.sliceBound, asIntOf, h1, h2]
  simp only [execOp, hop, ev hx, conv _ _ hlo, conv _ _ hhi]
  have key : (Instr.sliceBounds false s.size s.size (lo'.map (fun j => Value.int kd j)) (hi'.map (fun j => Value.int kd j)) none).run P w = .ok ((lo'.getD 0).toNat, (hi'.getD s.size).toNat, s.size) w := by
    cases hi' with
    | none =>
      cases lo' with
      | none => simp [Instr.sliceBounds]
      | some b =>
        simp only [Option.getD_some, Option.getD_none] at b0 b1
        simp [Instr.sliceBounds, Result.andThen, bnd b s.size _ b0 b1]
    | some e =>
      simp only [Option.getD_some] at e0 e1 b1 b0
      have he := bnd e s.size .sliceAlen e0 e1
      cases lo' with
      | none => simp [Instr.sliceBounds, Result.andThen, he]
      | some b =>
        simp only [Option.getD_some] at b0 b1
        simp [Instr.sliceBounds, Result.andThen, he, bnd b e.toNat _ b0 (by omega)]
  simp [Instr.sliceAt, Instr.slice, Result.andThen, TTab.desc_run hT ht, key]
theorem AtL.slStrK {Q : Exit → Act → World → Prop} {ops : Array Oper} {l : List Oper} {kd : IntKind} {t : Nat} {x : Operand} {lo hi : Option Operand} {s : ByteArray} {lo' hi' : Option Int} {k : ByteArray → Prop} (hT : TTab.Ok P TB) (H : Lift.sliceStr s lo' hi' k) (hop : o.op = .slice t x lo hi none) (ht : TB.desc t = some .string)
    (hx : L.ev x = some (.string s)) (hlo : lo.map L.ev = lo'.map (fun j => some (.int kd j))) (hhi : hi.map L.ev = hi'.map (fun j => some (.int kd j)))
    (hd : okDst o n = true) (next : ∀ r, k r → AtL P n B ops Q (L.put o.dst (.string r)) h l) : AtL P n B ops Q L h (o :: l) := by
  obtain ⟨r, hq, hk⟩ := Quiet1.sliceStrK (n := n) (h := h) hT hop ht hx hlo hhi H
  exact AtL.q hd hq (next r hk)
theorem EffX.allocT {t : Nat} {cs : List Value} {k : Addr → Heap → Prop} (hT : TTab.Ok P TB) (hop : o.op = .alloc t) (hz : TB.zero t = some cs) (H : newT t cs m0 k) :
    Eff P n B L ⟨m0, pv0⟩ o (fun u h' => ∃ a m, u = .pointer (some a) ∧ h' = ⟨m, pv0⟩ ∧ k a m) := by
  intro ac w ha hw next Q hn
  obtain ⟨v, hv, hvc⟩ := TTab.zero_run hT hz w
  have hcs : v.cells = cs.toArray := by rw [← hvc]
  have : (execOp ac.eval o).run P w = .ok (.value (.pointer (some ⟨m0.size, 0, none⟩))) { w with heap := w.heap.push (.cells cs.toArray t) } := by
    simp [execOp, hop, Instr.alloc, newVar, newRow, newObj, Sem.run, Result.andThen, hv, hcs, hw.rel.size]
  unfold Oper.wp
  rw [this]
  exact hn _ _ _ (hw.push ⟨rfl, rfl, rfl⟩ rfl) ⟨_, _, rfl, rfl, H⟩
theorem Oper.callWp {f : FuncId} {args : Array Operand} {tys : Array TypeId} {vs : List Value} (hop : o.op = .call ⟨.value (.func f), args, tys⟩) (hcall : ∀ vs w, (callFunc f vs).run P w = .ok (.enter f vs) w) (hvs : evArgs L args.toList = some vs)
    {K : Value → Hp → Prop} {h : Hp} (hk : ∀ w, InW B h w → Calls P f vs.toArray w fun e w' => ∃ v h', e = .returned v ∧ InW B h' w' ∧ K v h') : Eff P n B L h o K := by
  intro ac w ha hw next Q hn
  have e1 := evArgs_spec ha _ _ hvs
  have e2 : args.map ac.eval = vs.toArray := by rw [← e1, ← Array.toList_map]
  have : (execOp ac.eval o).run P w = .ok (.enter f vs.toArray) w := by
    simp [execOp, hop, resolve, Deferred.ofValue, Act.eval, invoke, e2, hcall]
  unfold Oper.wp
  rw [this]
  refine (hk w hw).mono ?_
  rintro e w' ⟨v, h', rfl, hs, hK⟩
  exact hn _ _ _ hs hK
theorem EffX.bldW {f T e n0 : Nat} {args : Array Operand} {tys : Array TypeId} {a : Option Addr} {s : ByteArray} {k : Heap → Prop}
    (hW : ∀ (B b : Nat) (bs : List Value) (s : ByteArray) (w : World), Lib.IsBuilder T e B b bs w → bs.length + s.size ≤ 140737488355328 → B ≤ w.heap.size →
      Calls P f #[.pointer (some ⟨b, 0, none⟩), .string s] w fun e' w' => e' = .returned (.tuple #[.int .i64 s.size, .nilIface]) ∧ (Lib.BuilderAt T e B b (.pointer (some ⟨b, 0, none⟩)) (bs ++ Lib.strCells s) w' ∧ Below B w w'))
    (hop : o.op = .call ⟨.value (.func f), args, tys⟩) (hcall : ∀ vs w, (callFunc f vs).run P w = .ok (.enter f vs) w) (hvs : evArgs L args.toList = some [.pointer a, .string s]) (h0 : B.h.size = n0) (H : bldW T e n0 a s m0 k) :
    Eff P n B L ⟨m0, []⟩ o (fun v h' => ∃ m, v = .tuple #[.int .i64 s.size, .nilIface] ∧ h' = ⟨m, []⟩ ∧ k m) := by
  obtain ⟨b, bs, rfl, hB, hq, hl, hk⟩ := H
  refine Oper.callWp hop hcall hvs fun w hw => ?_
  have hbm : b < m0.size := by
    obtain ⟨p, v, _, hb, _⟩ := hq
    exact (Array.getElem?_eq_some_iff.1 hb).1
  have hs : w.heap.size = m0.size := hw.rel.size
  refine (hW b b bs s w (hq.is hw.rel) hl (by omega)).mono ?_
  rintro e' w' ⟨rfl, h1, h2⟩
  have hz := h2.size
  refine ⟨_, _, rfl, hw.below (b := b) (by omega) hbm h2, _, rfl, rfl, hk _ ?_ (fun i hi => cut_old (by omega) hi) (BldH.of h1 fun k hk => cut_new (by omega) hk)⟩
  rw [cut_size (by omega) (by omega)]; omega
theorem EffX.bldS {f T e n0 : Nat} {args : Array Operand} {tys : Array TypeId} {a : Option Addr} {k : ByteArray → Heap → Prop}
    (hW : ∀ (B b : Nat) (l : List UInt8) (w : World), Lib.IsBuilder T e B b (Lib.byteCells l) w → B ≤ w.heap.size →
      Calls P f #[.pointer (some ⟨b, 0, none⟩)] w fun e' w' => e' = .returned (.string ⟨l.toArray⟩) ∧ Below B w w')
    (hop : o.op = .call ⟨.value (.func f), args, tys⟩) (hcall : ∀ vs w, (callFunc f vs).run P w = .ok (.enter f vs) w) (hvs : evArgs L args.toList = some [.pointer a]) (h0 : B.h.size = n0) (H : bldS T e n0 a m0 k) :
    Eff P n B L ⟨m0, []⟩ o (fun v h' => ∃ x m, v = .string x ∧ h' = ⟨m, []⟩ ∧ k x m) := by
  obtain ⟨b, l, rfl, hB, hq, hk⟩ := H
  refine Oper.callWp hop hcall hvs fun w hw => ?_
  have hbm : b < m0.size := by
    obtain ⟨p, v, _, hb, _⟩ := hq
    exact (Array.getElem?_eq_some_iff.1 hb).1
  have hs : w.heap.size = m0.size := hw.rel.size
  refine (hW b b l w (hq.is hw.rel) (by omega)).mono ?_
  rintro e' w' ⟨rfl, h2⟩
  have hz := h2.size
  refine ⟨_, _, rfl, hw.below (b := b) (by omega) hbm h2, _, _, rfl, rfl, hk _ ?_ (fun i hi => cut_old (by omega) hi)⟩
  rw [cut_size (by omega) (by omega)]; omega
end
end Go.Lift
namespace Go.Sh
open Go Go.Lift
def pow10H (g : Nat) (h : Heap) : Prop := ∃ T fr, h[g]? = some (.cells (Lib.pow10Tab.map fun z => Value.int .u64 z).toArray T fr)
def intH (g : Nat) (h : Heap) : Prop := ∃ m, cell? h ⟨g, 0, none⟩ = some (.int .i64 m)
def errH (g : Nat) (h : Heap) : Prop := ∃ ev, cell? h ⟨g, 0, none⟩ = some ev ∧ (ev = .nilIface ∨ ∃ te pe, ev = .iface te pe)
def strconv_Itoa (n : Int) (h : Heap) (Q : ByteArray → Heap → Prop) : Prop := (-9223372036854775808 ≤ n ∧ n ≤ 9223372036854775807) ∧ pow10H 0 h ∧ ∀ h', MExt h h' → Q ⟨(Lib.itoa n).toArray⟩ h'
def strings_Split (s sep : ByteArray) (h : Heap) (Q : Sl → Heap → Prop) : Prop := (s.size < 4294967281 ∧ 1 ≤ sep.size) ∧ intH 1 h ∧ ∀ r h', MExt h h' → R Value.string h' r (Lib.splitB sep 0 (Lib.countB s sep) s) → Q r h'
def strings_Join (x : Sl) (sep : ByteArray) (h : Heap) (Q : ByteArray → Heap → Prop) : Prop :=
  ∃ (b o c : Nat) (xs : List ByteArray), x = ⟨some ⟨b, o, none⟩, xs.length, c⟩ ∧ R Value.string h x xs ∧ 1 ≤ xs.length ∧ xs.length ≤ 1000 ∧ (Lib.join (xs.map (·.data.toList)) sep.data.toList).length ≤ 140737488355328 ∧ ∀ h', MExt h h' → Q ⟨(Lib.join (xs.map (·.data.toList)) sep.data.toList).toArray⟩ h'
def atoiN (s : ByteArray) : Int := match Lib.atoiAll s.data.toList with
  | .ok v => v
  | .range => Lib.atoiSat s.data.toList
  | _ => 0
def strconv_Atoi (s : ByteArray) (h : Heap) (Q : (Int × Value) → Heap → Prop) : Prop := s.size ≤ 281474976710656 ∧ errH 2 h ∧ errH 3 h ∧ ∀ e h', MExt h h' → Q (atoiN s, e) h'
end Go.Sh

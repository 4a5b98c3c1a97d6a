/-
  Laws that the proof of this claim's statement leans on, each proved under the conditions that it states.
-/
import Derived.Test.YtmcfhickfcmkkaaGreatDoorFwC
import Derived.Laws.BitsLemmas
import Derived.WalkKit
import Derived.ProofKit
import Derived.OpenShut
import Derived.ShutString
import Derived.ChangeOld
import Derived.Below
import GoSem.Claim
import Derived.LaidMore
import Derived.LaidHandle
import Derived.MakeChecks
set_option linter.unusedVariables false
set_option linter.unusedSimpArgs false
namespace Go.Lift
open Go
structure Keep (o : Option Nat) (h h' : Heap) : Prop where
  size : h.size ≤ h'.size
  same : ∀ b, b < h.size → some b ≠ o → h'[b]? = h[b]?
abbrev Ext (h h' : Heap) : Prop := Keep none h h'
theorem Keep.refl (o : Option Nat) (h : Heap) : Keep o h h := ⟨Nat.le_refl _, fun _ _ _ => rfl⟩
theorem Keep.trans {o : Option Nat} {a b c : Heap} (h : Keep o a b) (k : Keep o b c) : Keep o a c :=
  ⟨Nat.le_trans h.size k.size, fun i hi hne => (k.same i (Nat.lt_of_lt_of_le hi h.size) hne).trans (h.same i hi hne)⟩
theorem Keep.of_ext {o : Option Nat} {a b : Heap} (h : Ext a b) : Keep o a b := ⟨h.size, fun i hi _ => h.same i hi (by simp)⟩
theorem Keep.fresh {o : Option Nat} {a b c : Heap} (h : Keep o a b) {n : Nat} (hn : a.size ≤ n) (k : Keep (some n) b c) : Keep o a c :=
  ⟨Nat.le_trans h.size k.size, fun i hi hne => (k.same i (Nat.lt_of_lt_of_le hi h.size) (by simp; omega)).trans (h.same i hi hne)⟩
theorem Ext.push (h : Heap) (o : Obj) : Ext h (h.push o) :=
  ⟨by simp, fun b hb _ => by rw [Array.getElem?_push]; simp [Nat.ne_of_lt hb]⟩
theorem Keep.setCell (h : Heap) (a : Addr) (v : Value) : Keep (some a.block) h (aS h a v) :=
  ⟨by simp [Lift.aS], fun b _ hne => by
    have : a.block ≠ b := fun e => hne (by rw [e])
    simp [Lift.aS, Array.getElem?_modify, this]⟩
theorem hO {h : Heap} {a : Addr} {v : Value} (hc : cell? h a = some v) : a.block < h.size := by
  unfold cell? at hc
  cases hb : h[a.block]? with
  | none => simp [hb] at hc
  | some o => exact (Array.getElem?_eq_some_iff.1 hb).1
theorem ao {o : Option Nat} {h h' : Heap} (k : Keep o h h') {a : Addr} {v : Value} (hc : cell? h a = some v) (hne : some a.block ≠ o) : cell? h' a = some v := by
  have := k.same a.block (hO hc) hne
  unfold cell? at hc ⊢
  rw [this]; exact hc
theorem fT {o : Option Nat} {h h' : Heap} (k : Keep o h h') {a : Addr} {f : Bool} (hl : a.block < h.size) (hf : frozen? h a = f) (hne : some a.block ≠ o) : frozen? h' a = f := by
  have := k.same a.block hl hne
  unfold frozen? at hf ⊢
  rw [this]; exact hf
theorem cu (a : Addr) (i : Nat) (hs : a.spot = none) : a.add i = ⟨a.block, a.off + i, none⟩ := by
  unfold Addr.add
  split
  · rename_i h; subst h; cases a; simp_all
  · rfl
theorem aj (a : Addr) (i : Nat) : (a.add i).block = a.block := by unfold Addr.add; split <;> rfl
theorem b7 (a : Addr) (i j : Nat) : (a.add i).add j = a.add (i + j) := by
  unfold Addr.add
  by_cases hi : i = 0
  · simp [hi]
  · by_cases hj : j = 0
    · simp [hj]
    · have : i + j ≠ 0 := by omega
      simp [hi, hj, Nat.add_assoc]
structure R {α : Type} (toV : α → Value) (h : Heap) (s : Sl) (xs : List α) : Prop where
  len : s.len = xs.length
  cap : s.len ≤ s.cap
  cells : cellsO? h s.a s.len = some (xs.map toV)
theorem cells?_get {h : Heap} {a : Addr} : ∀ (n i : Nat) (l : List Value), cells? h a n i = some l → ∀ j (hj : j < l.length), cell? h (a.add (i + j)) = some l[j] := by
  intro n
  induction n with
  | zero => intro i l hc j hj; simp [cells?] at hc; subst hc; simp at hj
  | succ n ih =>
    intro i l hc j hj
    simp only [cells?] at hc
    split at hc
    · rename_i v r h1 h2
      simp only [Option.some.injEq] at hc; subst hc
      cases j with
      | zero => simpa using h1
      | succ j =>
        have := ih (i + 1) r h2 j (by simpa using hj)
        simp only [List.getElem_cons_succ]
        rw [← this]
        congr 2
        omega
    · cases hc
theorem cells?_mk {h : Heap} {a : Addr} : ∀ (l : List Value) (i : Nat), (∀ j (hj : j < l.length), cell? h (a.add (i + j)) = some l[j]) → cells? h a l.length i = some l := by
  intro l
  induction l with
  | nil => intro i _; rfl
  | cons v l ih =>
    intro i hc
    have h0 := hc 0 (by simp)
    simp only [Nat.add_zero, List.getElem_cons_zero] at h0
    have h1 := ih (i + 1) (fun j hj => by
      have := hc (j + 1) (by simpa using hj)
      simp only [List.getElem_cons_succ] at this
      rw [← this]
      congr 2
      omega)
    simp only [List.length_cons, cells?, h0, h1]
variable {α : Type} {toV : α → Value} {h h' : Heap} {s : Sl} {xs : List α}
theorem R.get (hr : R toV h s xs) {i : Nat} (hi : i < xs.length) : ∃ a, s.a = some a ∧ cell? h (a.add i) = some (toV xs[i]) := by
  have hc := hr.cells
  cases ha : s.a with
  | none =>
    rw [ha] at hc
    simp only [cellsO?, Option.some.injEq] at hc
    have : xs = [] := by cases xs with
      | nil => rfl
      | cons x xs => simp at hc
    subst this; simp at hi
  | some a =>
    rw [ha] at hc
    simp only [cellsO?] at hc
    refine ⟨a, rfl, ?_⟩
    have := cells?_get _ 0 _ hc i (by simpa using hi)
    simpa using this
theorem R.mk' (hl : s.len = xs.length) (hcap : s.len ≤ s.cap) (a : Addr) (ha : s.a = some a) (hc : ∀ i (hi : i < xs.length), cell? h (a.add i) = some (toV xs[i])) : R toV h s xs := by
  refine ⟨hl, hcap, ?_⟩
  rw [ha, hl]
  show cells? h a xs.length 0 = _
  have := cells?_mk (h := h) (a := a) (xs.map toV) 0 (fun j hj => by
    have := hc j (by simpa using hj)
    simpa using this)
  simpa using this
theorem R.nil : R toV h Sl.nil ([] : List α) := ⟨rfl, Nat.le_refl _, rfl⟩
theorem R.nil_of (hl : s.len = 0) : R toV h s ([] : List α) := by
  refine ⟨by simpa using hl, by omega, ?_⟩
  rw [hl]
  cases s.a <;> rfl
theorem R.keep (hr : R toV h s xs) {o : Option Nat} (k : Keep o h h') (hne : ∀ a, s.a = some a → some a.block ≠ o) : R toV h' s xs := by
  cases ha : s.a with
  | none =>
    refine ⟨hr.len, hr.cap, ?_⟩
    have := hr.cells
    rw [ha] at this ⊢
    exact this
  | some a =>
    refine R.mk' hr.len hr.cap a ha (fun i hi => ?_)
    obtain ⟨a', ha', hc⟩ := hr.get hi
    rw [ha] at ha'; cases ha'
    exact ao k hc (by rw [aj]; exact hne a ha)
theorem R.ext (hr : R toV h s xs) (k : Ext h h') : R toV h' s xs := hr.keep k (fun _ _ => by simp)
theorem R.lt (hr : R toV h s xs) {a : Addr} (ha : s.a = some a) (hne : xs ≠ []) : a.block < h.size := by
  have : 0 < xs.length := by cases xs with
    | nil => exact absurd rfl hne
    | cons x xs => simp
  obtain ⟨a', ha', hc⟩ := hr.get this
  rw [ha] at ha'; cases ha'
  have := hO hc
  rwa [aj] at this
theorem R.keepB (hr : R toV h s xs) {n : Nat} (k : Keep (some n) h h') (hn : ∀ a, s.a = some a → xs ≠ [] → a.block ≠ n) : R toV h' s xs := by
  by_cases hx : xs = []
  · subst hx
    exact R.nil_of hr.len |> fun r => ⟨hr.len, hr.cap, r.cells⟩
  · exact hr.keep k (fun a ha => by
      have := hn a ha hx
      simp [this])
theorem R.idx (hr : R toV h s xs) {i : Int} {k : Addr → Prop} (h0 : 0 ≤ i) (h1 : i < xs.length) (K : ∀ a, s.a = some a → cell? h (a.add i.toNat) = some (toV (xs[i.toNat]'(by omega))) → k (a.add i.toNat)) : idxS s i 1 k := by
  obtain ⟨a, ha, hc⟩ := hr.get (i := i.toNat) (by omega)
  refine ⟨a, ha, ⟨h0, by rw [hr.len]; exact h1⟩, ?_⟩
  rw [Nat.mul_one]
  exact K a ha hc
theorem R.load (hr : R toV h s xs) {i : Int} {k : α → Prop} (h0 : 0 ≤ i) (h1 : i < xs.length) (K : k (xs[i.toNat]'(by omega))) : idxS s i 1 fun a => Lift.load toV a h k :=
  hr.idx h0 h1 fun _ _ hc => ⟨_, hc, K⟩
structure Own {α : Type} (toV : α → Value) (B : Nat) (h : Heap) (s : Sl) (xs : List α) : Prop where
  r : R toV h s xs
  own : (s.a = none ∧ s.cap = 0) ∨ ∃ b c T, s.a = some ⟨b, 0, none⟩ ∧ B ≤ b ∧ h[b]? = some (.cells c T (0, 0)) ∧ s.cap ≤ c.size
def Sl.blk (s : Sl) : Option Nat := s.a.map (·.block)
theorem Own.nil {B : Nat} : Own toV B h Sl.nil ([] : List α) := ⟨R.nil, .inl ⟨rfl, rfl⟩⟩
theorem Own.mono {B C : Nat} (ho : Own toV B h s xs) (hc : C ≤ B) : Own toV C h s xs := ⟨ho.r, ho.own.imp id fun ⟨b, c, T, h1, h2, h3, h4⟩ => ⟨b, c, T, h1, by omega, h3, h4⟩⟩
theorem Own.lt {B : Nat} (ho : Own toV B h s xs) {b : Nat} (hb : s.blk = some b) : B ≤ b ∧ b < h.size := by
  rcases ho.own with ⟨h1, _⟩ | ⟨b', c, T, h1, h2, h3, _⟩
  · simp [Sl.blk, h1] at hb
  · simp [Sl.blk, h1] at hb
    subst hb
    exact ⟨h2, (Array.getElem?_eq_some_iff.1 h3).1⟩
theorem Own.keep {B : Nat} (ho : Own toV B h s xs) {o : Option Nat} (k : Keep o h h') (hne : ∀ b, s.blk = some b → some b ≠ o) : Own toV B h' s xs := by
  refine ⟨ho.r.keep k (fun a ha => hne a.block (by simp [Sl.blk, ha])), ?_⟩
  rcases ho.own with h1 | ⟨b, c, T, h1, h2, h3, h4⟩
  · exact .inl h1
  · refine .inr ⟨b, c, T, h1, h2, ?_, h4⟩
    rw [k.same b (Array.getElem?_eq_some_iff.1 h3).1 (hne b (by simp [Sl.blk, h1]))]
    exact h3
theorem Own.ext {B : Nat} (ho : Own toV B h s xs) (k : Ext h h') : Own toV B h' s xs := ho.keep k (fun _ _ => by simp)
theorem abs (h : Heap) (c : Array Value) (T : Nat) (f : Nat × Nat) (i : Nat) : cell? (h.push (.cells c T f)) ⟨h.size, i, none⟩ = c[i]? := by
  unfold cell?
  simp
theorem cO (h : Heap) (c : Array Value) (T : Nat) (f : Nat × Nat) (i : Nat) : cell? (h.push (.cells c T f)) ((⟨h.size, 0, none⟩ : Addr).add i) = c[i]? := by
  rw [cu _ _ rfl]
  simp [abs]
theorem Own.new {ys : List α} {cs : List Value} {T : Nat} (hcs : cs = ys.map toV) : Own toV h.size (h.push (.cells cs.toArray T (0, 0))) ⟨some ⟨h.size, 0, none⟩, ys.length, ys.length⟩ ys := by
  subst hcs
  refine ⟨R.mk' rfl (Nat.le_refl _) ⟨h.size, 0, none⟩ rfl (fun i hi => ?_), .inr ⟨h.size, (ys.map toV).toArray, T, rfl, Nat.le_refl _, by simp, by simp⟩⟩
  rw [cO]
  simp [hi]
theorem nL (a : Addr) : ∀ (vs : List Value) (i : Nat) (h : Heap), Keep (some a.block) h (ip h a vs i) := by
  intro vs
  induction vs with
  | nil => intro i h; exact Keep.refl _ _
  | cons v vs ih =>
    intro i h
    have := Keep.setCell h (a.add i) v
    rw [aj] at this
    exact this.trans (ih (i + 1) _)
theorem alG (hone : ∀ x : α, one (toV x) = true) (ys : List α) : bT (ys.map toV) = true := by
  simp [bT, hone]
theorem wH {h : Heap} {b i : Nat} {c : Array Value} {T : Nat} {f : Nat × Nat} (hb : h[b]? = some (.cells c T f)) (v : Value) :
    (aS h ⟨b, i, none⟩ v)[b]? = some (.cells (c.setIfInBounds i v) T f) := by
  simp [aS, Array.getElem?_modify, hb]
theorem jF {h : Heap} {b i : Nat} {c : Array Value} {T : Nat} (hb : h[b]? = some (.cells c T (0, 0))) : frozen? h ⟨b, i, none⟩ = false := by
  unfold frozen?
  simp [hb]
theorem mq {b : Nat} {T : Nat} : ∀ (vs : List Value) (o i : Nat) (h : Heap) (c : Array Value), h[b]? = some (.cells c T (0, 0)) → o + i + vs.length ≤ c.size →
    ∃ c', (ip h ((⟨b, o, none⟩ : Addr)) vs i)[b]? = some (.cells c' T (0, 0)) ∧ c'.size = c.size ∧ (∀ j, j < o + i → c'[j]? = c[j]?) ∧ (∀ j (hj : j < vs.length), c'[o + i + j]? = some vs[j]) ∧ lX h ⟨b, o, none⟩ vs.length i := by
  intro vs
  induction vs with
  | nil => intro o i h c hb _; exact ⟨c, hb, rfl, fun _ _ => rfl, fun j hj => by simp at hj, trivial⟩
  | cons v vs ih =>
    intro o i h c hb hle
    simp only [List.length_cons] at hle
    have ha : ((⟨b, o, none⟩ : Addr)).add i = ⟨b, o + i, none⟩ := cu _ _ rfl
    have hcell : cell? h ⟨b, o + i, none⟩ = some (c[o + i]'(by omega)) := by
      unfold cell?
      simp [hb]
    have hb' := wH hb v (i := o + i)
    obtain ⟨c', h1, h2, h3, h4, h5⟩ := ih o (i + 1) (aS h ⟨b, o + i, none⟩ v) (c.setIfInBounds (o + i) v) hb' (by simp; omega)
    refine ⟨c', ?_, by simpa using h2, ?_, ?_, ?_⟩
    · simp only [ip, ha]; exact h1
    · intro j hj
      rw [h3 j (by omega)]
      rw [Array.getElem?_setIfInBounds_ne (by omega)]
    · intro j hj
      cases j with
      | zero =>
        rw [h3 (o + i + 0) (by omega)]
        simp only [Nat.add_zero, List.getElem_cons_zero]
        rw [Array.getElem?_setIfInBounds]
        simp; omega
      | succ j =>
        have := h4 j (by simpa using hj)
        simp only [List.getElem_cons_succ]
        rw [← this]
        congr 1
        omega
    · refine ⟨⟨_, by rw [ha]; exact hcell⟩, by rw [ha]; exact jF hb, ?_⟩
      have : ∀ (n k : Nat), o + k + n ≤ c.size → lX h ⟨b, o, none⟩ n k := by
        intro n
        induction n with
        | zero => intro k _; trivial
        | succ n ihn =>
          intro k hk
          refine ⟨?_, ?_, ihn (k + 1) (by omega)⟩
          · rw [cu _ _ rfl]
            refine ⟨c[o + k]'(by omega), ?_⟩
            unfold cell?
            simp [hb]
          · rw [cu _ _ rfl]; exact jF hb
      exact this vs.length (i + 1) (by omega)
theorem Own.append {B bytes : Nat} {ys : List α} {x : Sl} {k : Sl → Heap → Prop} (ho : Own toV B h s xs) (hB : B ≤ h.size) (hx : R toV h x ys) (hone : ∀ x : α, one (toV x) = true) (hb : (xs.length + ys.length) * bytes ≤ 2 ^ 46)
    (K : ∀ s' h', Own toV B h' s' (xs ++ ys) → Keep s.blk h h' → (s'.blk = s.blk ∨ s'.blk = some h.size ∧ h'.size = h.size + 1) → k s' h') : aP 1 bytes s x h k := by
  refine ⟨ys.map toV, by rw [Nat.mul_one]; exact hx.cells, alG hone ys, by rw [ho.r.len, hx.len]; exact hb, ?_, ?_⟩
  · intro hfit
    rcases ho.own with ⟨ha, hcap⟩ | ⟨b, c, T, ha, hBb, hblk, hcs⟩
    · have h1 : s.len = 0 := by have := ho.r.cap; omega
      have h2 : x.len = 0 := by omega
      have hys : ys = [] := List.eq_nil_of_length_eq_zero (by rw [← hx.len]; exact h2)
      subst hys
      simp only [ha]
      refine K _ _ ⟨⟨by simp [ho.r.len, h2], by simpa using hfit, ?_⟩, .inl ⟨rfl, hcap⟩⟩ (Keep.refl _ _) (.inl (by simp [Sl.blk, ha]))
      have := ho.r.cells
      rw [ha] at this
      simp only [cellsO?] at this ⊢
      simpa using this
    · have hlen := ho.r.len
      have hxl := hx.len
      simp only [ha, Nat.mul_one]
      rw [cu _ _ rfl]
      simp only [Nat.zero_add]
      obtain ⟨c', h1, h2, h3, h4, h5⟩ := mq (T := T) (ys.map toV) s.len 0 h c hblk (by simp; omega)
      refine ⟨h5, K _ _ ⟨R.mk' (by simp [hlen, hxl]) (by simpa using hfit) ⟨b, 0, none⟩ rfl ?_, .inr ⟨b, c', T, rfl, hBb, h1, by simp [h2]; omega⟩⟩ ?_ (.inl (by simp [Sl.blk, ha]))⟩
      · intro i hi
        rw [cu _ _ rfl]
        unfold cell?
        simp only [h1, Nat.zero_add, Option.isSome_none, Bool.false_eq_true, if_false]
        by_cases hlt : i < xs.length
        · rw [h3 i (by omega)]
          obtain ⟨a', ha', hc⟩ := ho.r.get hlt
          rw [ha] at ha'; cases ha'
          rw [cu _ _ rfl] at hc
          unfold cell? at hc
          simp [hblk] at hc
          rw [hc]
          simp [List.getElem_append, hlt]
        · have hj : i - xs.length < ys.length := by simp at hi; omega
          have := h4 (i - xs.length) (by simpa using hj)
          rw [show s.len + 0 + (i - xs.length) = i from by omega] at this
          rw [this]
          simp [List.getElem_append, hlt]
      · have := nL ⟨b, s.len, none⟩ (ys.map toV) 0 h
        simpa [Sl.blk, ha] using this
  · intro hgrow
    refine ⟨xs.map toV, by rw [Nat.mul_one]; exact ho.r.cells, ?_⟩
    intro cap T rest hcap hrest
    refine K _ _ ⟨R.mk' (by simp [ho.r.len, hx.len]) (by simpa using hcap) ⟨h.size, 0, none⟩ rfl ?_, .inr ⟨h.size, _, T, rfl, hB, by simp; rfl, ?_⟩⟩ (Keep.of_ext (Ext.push _ _)) (.inr ⟨by simp [Sl.blk], by simp⟩)
    · intro i hi
      rw [cO]
      have hi' : i < (xs.map toV ++ ys.map toV).length := by simpa using hi
      simp only [List.getElem?_toArray]
      rw [List.getElem?_append_left hi', List.getElem?_eq_getElem hi']
      simp [← List.map_append]
    · have h1 := ho.r.len
      have h2 := hx.len
      simp [hrest]
      omega
theorem Own.store {B : Nat} (ho : Own toV B h s xs) {i : Nat} (hi : i < xs.length) {a : Addr} (ha : s.a = some a) (y : α) {k : Heap → Prop}
    (K : ∀ h', Own toV B h' s (xs.set i y) → Keep s.blk h h' → h'.size = h.size → k h') : Lift.amL (a.add i) (toV y) h k := by
  obtain ⟨a', ha', hc⟩ := ho.r.get hi
  rw [ha] at ha'; cases ha'
  rcases ho.own with ⟨h1, _⟩ | ⟨b, c, T, h1, h2, h3, h4⟩
  · rw [h1] at ha; cases ha
  · rw [h1] at ha; cases ha
    have hai : (({ block := b, off := 0, spot := none } : Addr)).add i = ⟨b, i, none⟩ := by rw [cu _ _ rfl]; simp
    rw [hai] at hc ⊢
    refine ⟨⟨_, hc⟩, jF h3, K _ ⟨R.mk' (by simp [ho.r.len]) ho.r.cap _ h1 ?_, .inr ⟨b, _, T, h1, h2, wH h3 _, by simpa using h4⟩⟩ ?_ (by simp [aS])⟩
    · intro j hj
      have hj' : j < xs.length := by simpa using hj
      rw [cu _ _ rfl]
      simp only [Nat.zero_add]
      by_cases e : i = j
      · subst e
        rw [bK hc]
        simp
      · rw [iI (.inr (.inl e))]
        obtain ⟨a'', ha'', hc''⟩ := ho.r.get hj'
        rw [h1] at ha''; cases ha''
        rw [cu _ _ rfl] at hc''
        simp only [Nat.zero_add] at hc''
        rw [hc'']
        simp [List.getElem_set, e]
    · have := Keep.setCell h ⟨b, i, none⟩ (toV y)
      simpa [Sl.blk, h1] using this
theorem R.take (hr : R toV h s xs) {i : Int} {k : Sl → Prop} (h0 : 0 ≤ i) (h1 : i ≤ xs.length) (K : ∀ s', R toV h s' (xs.take i.toNat) → s'.blk = s.blk → s'.a = s.a ∨ s'.len = 0 → s'.len ≤ s.len → k s') : ki s none (some i) none 1 k := by
  have hl := hr.len
  have hcap := hr.cap
  refine ⟨⟨by simp, by simp⟩, ⟨h0, .inr (by simp; omega)⟩, ⟨by simp, by simpa using h0⟩, ?_⟩
  simp only [Option.getD_none, Option.getD_some, Int.toNat_zero, Nat.sub_zero, Nat.zero_mul]
  have hadd : ∀ o : Option Addr, o.map (fun a => a.add 0) = o := by
    intro o; cases o <;> simp [Addr.add]
  have heq : (if (s.cap : Int) = 0 then s.a else s.a.map (fun a => a.add 0)) = s.a := by rw [hadd]; simp
  rw [heq]
  refine K _ ?_ rfl (.inl rfl) (by simp; omega)
  cases ha : s.a with
  | none =>
    have hx : xs = [] := by
      have := hr.cells; rw [ha] at this
      simp only [cellsO?, Option.some.injEq] at this
      cases xs with
      | nil => rfl
      | cons x xs => simp at this
    subst hx
    refine ⟨?_, ?_, ?_⟩
    · simp at h1 ⊢; omega
    · simp; simp at h1; omega
    · simp [cellsO?]
  | some a =>
    refine R.mk' ?_ ?_ a rfl ?_
    · simp; omega
    · simp; omega
    · intro j hj
      simp only [List.length_take] at hj
      obtain ⟨a', ha', hc⟩ := hr.get (i := j) (by omega)
      rw [ha] at ha'; cases ha'
      rw [hc]
      simp
end Go.Lift

namespace Go.Lift
def val (b : Nat) : List Nat → Nat
  | [] => 0
  | x :: xs => x + b * val b xs
def Lim (b : Nat) (xs : List Nat) : Prop := ∀ x ∈ xs, x < b
def Nrm (xs : List Nat) : Prop := xs.getLast? ≠ some 0
theorem aff (b : Nat) : val b [] = 0 := rfl
theorem aaR (b : Nat) : ∀ xs ys : List Nat, val b (xs ++ ys) = val b xs + b ^ xs.length * val b ys := by
  intro xs ys
  induction xs with
  | nil => simp [val]
  | cons x xs ih =>
    simp only [List.cons_append, val, ih, List.length_cons, Nat.pow_succ]
    rw [Nat.mul_add, ← Nat.mul_assoc, Nat.mul_comm b (b ^ xs.length), Nat.add_assoc]
theorem wz (b : Nat) (xs : List Nat) (x : Nat) : val b (xs ++ [x]) = val b xs + b ^ xs.length * x := by
  rw [aaR]; simp [val]
theorem tA {b : Nat} {xs : List Nat} (h : Lim b xs) : val b xs < b ^ xs.length := by
  induction xs with
  | nil => simp [val]
  | cons x xs ih =>
    have hx : x < b := h x (by simp)
    have := ih (fun y hy => h y (by simp [hy]))
    simp only [val, List.length_cons, Nat.pow_succ]
    have h2 : b * (val b xs + 1) ≤ b * b ^ xs.length := Nat.mul_le_mul_left _ this
    rw [Nat.mul_add, Nat.mul_one] at h2
    rw [Nat.mul_comm (b ^ xs.length) b]
    omega
theorem Lim.append {b : Nat} {xs ys : List Nat} (h : Lim b xs) (k : Lim b ys) : Lim b (xs ++ ys) := by
  intro x hx
  rcases List.mem_append.1 hx with hx | hx
  · exact h x hx
  · exact k x hx
theorem Lim.snoc {b : Nat} {xs : List Nat} {x : Nat} (h : Lim b xs) (k : x < b) : Lim b (xs ++ [x]) := h.append (by intro y hy; simp at hy; omega)
theorem Lim.take {b : Nat} {xs : List Nat} (h : Lim b xs) (n : Nat) : Lim b (xs.take n) := fun x hx => h x (List.mem_of_mem_take hx)
theorem Lim.get {b : Nat} {xs : List Nat} (h : Lim b xs) {i : Nat} (hi : i < xs.length) : xs[i] < b := h _ (List.getElem_mem hi)
theorem Lim.nil {b : Nat} : Lim b [] := fun x hx => by cases hx
theorem Lim.set {b : Nat} {xs : List Nat} (h : Lim b xs) (i : Nat) {x : Nat} (k : x < b) : Lim b (xs.set i x) := by
  intro y hy
  rcases List.mem_or_eq_of_mem_set hy with hy | rfl
  · exact h y hy
  · exact k
theorem Nrm.nil : Nrm [] := by simp [Nrm]
theorem Nrm.tail {x : Nat} {xs : List Nat} (h : Nrm (x :: xs)) : Nrm xs := by
  unfold Nrm at *
  cases xs with
  | nil => simp
  | cons y ys => simpa [List.getLast?_cons_cons] using h
theorem mW {b : Nat} (hb : 0 < b) : ∀ {xs : List Nat}, Nrm xs → val b xs = 0 → xs = [] := by
  intro xs
  induction xs with
  | nil => intro _ _; rfl
  | cons x xs ih =>
    intro hn hv
    simp only [val] at hv
    have hx : x = 0 := by omega
    have hv2 : b * val b xs = 0 := by omega
    have : val b xs = 0 := by
      rcases Nat.mul_eq_zero.1 hv2 with h | h
      · omega
      · exact h
    have hxs := ih hn.tail this
    subst hxs hx
    simp [Nrm] at hn
theorem ala {b : Nat} (hb : 0 < b) : ∀ {xs ys : List Nat}, Lim b xs → Lim b ys → Nrm xs → Nrm ys → val b xs = val b ys → xs = ys := by
  intro xs
  induction xs with
  | nil => intro ys _ _ _ hn hv; exact (mW hb hn (by rw [← hv]; rfl)).symm
  | cons x xs ih =>
    intro ys hx hy hn hm hv
    cases ys with
    | nil => exact mW hb hn (by rw [hv]; rfl)
    | cons y ys =>
      simp only [val] at hv
      have h1 : x < b := hx x (by simp)
      have h2 : y < b := hy y (by simp)
      have h3 : x = y := by
        have := congrArg (· % b) hv
        simp only [Nat.add_mul_mod_self_left, Nat.mod_eq_of_lt h1, Nat.mod_eq_of_lt h2] at this
        exact this
      subst h3
      have h4 : val b xs = val b ys := Nat.eq_of_mul_eq_mul_left hb (by omega)
      rw [ih (fun z hz => hx z (by simp [hz])) (fun z hz => hy z (by simp [hz])) hn.tail hm.tail h4]
theorem amc {b : Nat} (hb : 0 < b) : ∀ {xs : List Nat}, Nrm xs → xs ≠ [] → b ^ (xs.length - 1) ≤ val b xs := by
  intro xs
  induction xs with
  | nil => intro _ h; exact absurd rfl h
  | cons x xs ih =>
    intro hn _
    cases xs with
    | nil =>
      have : x ≠ 0 := by intro h; subst h; simp [Nrm] at hn
      simp [val]; omega
    | cons y ys =>
      have := ih hn.tail (by simp)
      simp only [val, List.length_cons, Nat.add_sub_cancel] at this ⊢
      rw [Nat.pow_succ, Nat.mul_comm]
      have := Nat.mul_le_mul_left b this
      omega
theorem iV {b : Nat} (xs : List Nat) (i : Nat) : val b xs = val b (xs.take i) + b ^ (min i xs.length) * val b (xs.drop i) := by
  have := aaR b (xs.take i) (xs.drop i)
  rw [List.take_append_drop] at this
  rw [this]
  simp
theorem fZ {b : Nat} (xs : List Nat) (i : Nat) (hi : i < xs.length) : val b (xs.take (i + 1)) = val b (xs.take i) + b ^ i * xs[i] := by
  rw [List.take_succ_eq_append_getElem hi, wz]
  simp [Nat.min_eq_left (Nat.le_of_lt hi)]
theorem kB {b : Nat} (xs : List Nat) (i : Nat) (hi : i < xs.length) : val b (xs.drop i) = xs[i] + b * val b (xs.drop (i + 1)) := by
  rw [List.drop_eq_getElem_cons hi]; rfl
theorem uR {b : Nat} (xs : List Nat) (i : Nat) (hi : xs.length ≤ i) : val b (xs.take i) = val b xs := by rw [List.take_of_length_le hi]
theorem jh (b n : Nat) : val b (List.replicate n 0) = 0 := by
  induction n with
  | zero => rfl
  | succ n ih => simp [List.replicate_succ, val, ih]
theorem ab5 {b : Nat} {xs : List Nat} (h : xs ≠ []) (hz : xs.getLast? = some 0) : val b (xs.take (xs.length - 1)) = val b xs := by
  have hl : 0 < xs.length := List.length_pos_iff.2 h
  have h1 := fZ (b := b) xs (xs.length - 1) (by omega)
  rw [show xs.length - 1 + 1 = xs.length from by omega, List.take_length] at h1
  have : xs[xs.length - 1]'(by omega) = 0 := by
    rw [List.getLast?_eq_getElem?, List.getElem?_eq_getElem (by omega)] at hz
    simpa using hz
  rw [h1, this]; simp
theorem yJ {b : Nat} : ∀ (xs : List Nat) (i : Nat) (hi : i < xs.length) (y : Nat), val b (xs.set i y) + b ^ i * xs[i] = val b xs + b ^ i * y := by
  intro xs
  induction xs with
  | nil => intro i hi; simp at hi
  | cons x xs ih =>
    intro i hi y
    cases i with
    | zero => simp [val]; omega
    | succ i =>
      have hi' : i < xs.length := by simpa using hi
      simp only [List.set_cons_succ, val, List.getElem_cons_succ, Nat.pow_succ]
      have := ih i hi' y
      have h2 := congrArg (b * ·) this
      simp only [Nat.mul_add] at h2
      have e1 : b ^ i * b * xs[i] = b * (b ^ i * xs[i]) := by rw [Nat.mul_comm (b ^ i) b, Nat.mul_assoc]
      have e2 : b ^ i * b * y = b * (b ^ i * y) := by rw [Nat.mul_comm (b ^ i) b, Nat.mul_assoc]
      rw [e1, e2]
      omega
end Go.Lift

namespace Go.Lift
open Go
theorem w64 {n : Int} (h1 : -9223372036854775808 ≤ n) (h2 : n < 9223372036854775808) : IntKind.wrap .i64 n = n := by rw [IntKind.wrap_i64]; omega
theorem wu64 {n : Int} (h1 : 0 ≤ n) (h2 : n < 18446744073709551616) : IntKind.wrap .u64 n = n := by
  have : IntKind.wrap .u64 n = n % 18446744073709551616 := rfl
  rw [this]; omega
theorem aeG (n : Int) : IntKind.wrap .u64 n = n % 18446744073709551616 := rfl
theorem vA (n : Int) : IntKind.wrap .u32 n = n % 4294967296 := rfl
theorem wu32 {n : Int} (h1 : 0 ≤ n) (h2 : n < 4294967296) : IntKind.wrap .u32 n = n := by rw [vA]; omega
theorem wu8m (n : Int) : IntKind.wrap .u8 n = n % 256 := rfl
theorem wu8 {n : Int} (h1 : 0 ≤ n) (h2 : n < 256) : IntKind.wrap .u8 n = n := by rw [wu8m]; omega
abbrev RI (k : IntKind) (h : Heap) (s : Sl) (xs : List Nat) : Prop := R (fun n : Nat => Value.int k (n : Int)) h s xs
abbrev OwnI (k : IntKind) (B : Nat) (h : Heap) (s : Sl) (xs : List Nat) : Prop := Own (fun n : Nat => Value.int k (n : Int)) B h s xs
theorem RI.ld {kd : IntKind} {h : Heap} {s : Sl} {xs : List Nat} (hr : RI kd h s xs) {i : Int} {j : Nat} {k : Int → Prop} (hij : i = (j : Int)) (h1 : j < xs.length) (K : k (xs[j] : Nat)) : idxS s i 1 fun a => Lift.load (Value.int kd) a h k := by
  subst hij
  obtain ⟨a, ha, hc⟩ := hr.get h1
  have := hr.len
  refine ⟨a, ha, ⟨by omega, by omega⟩, ?_⟩
  refine ⟨_, ?_, K⟩
  simpa using hc
theorem ahp (k : IntKind) (n : Nat) : one (Value.int k (n : Int)) = true := rfl
end Go.Lift

namespace Go.Lift
open Go Go.RowKit
def anh (k : IntKind) (w : World) (a : Option Addr) (len cap : Nat) (zs : List Int) : Prop :=
  (a = none ∧ len = 0 ∧ cap = 0 ∧ zs = []) ∨
  ∃ x, a = some x ∧ len ≤ cap ∧ cap ≤ maxLen ∧ zs.length = cap ∧ (∀ i, i < zs.length → w.cell? (x.add i) = some (.int k (zs.getD i 0))) ∧ ∀ n ∈ zs, (Lit.int k n).wf = true
theorem agv {w w' : World} {e : Ending} (h : Post ⟨w, w.heap⟩ Value.bool (fun r h => r = true ∧ Ext w.heap h) e w') : e = .returned (.bool true) ∧ Below w.heap.size w w' := by
  obtain ⟨r, m, rfl, hs, rfl, he⟩ := h
  refine ⟨rfl, ⟨hs.os, hs.tape.1, hs.out, ?_, fun k hk => ?_⟩⟩
  · have := he.size; have := hs.rel.size; simp only at this; omega
  · have h1 := he.same k hk (by simp)
    rcases hs.rel.same k with h2 | h2
    · simp only at h2
      rw [h1] at h2
      exact (hs.keep k h2).2
    · simp only at h2
      rw [h2, h1]
end Go.Lift

namespace Go.Lift
open Go Go.RowKit
theorem afA {P : Program} {W : World} {name : String} {g : Nat} {t e n : Nat} {kd : IntKind} {ns : List Nat} (hg : P.globalNamed name = some g) (ht : (P.globals[g]?).map (·.type) = some t)
    (hu : P.underlying t = some (.array n e)) (hue : P.underlying e = some (.int kd)) (hce : P.cellsOf e = 1) (hlen : ns.length = n)
    (h : laidMet P [(name, .agg (ns.map fun k : Nat => .lit (.int kd (k : Int))))] W) : RI kd W.heap ⟨some ⟨g, 0, none⟩, n, n⟩ ns := by
  obtain ⟨ps, ⟨g0, t0, cs0, f0, p0, q0, hg0, ht0, hv0, hd0, _, _⟩, _, _⟩ := h
  obtain rfl := Option.some.inj (hg.symm.trans hg0)
  obtain rfl := Option.some.inj (ht.symm.trans ht0)
  obtain ⟨xs, m, rfl, hx, hlen2, hn, hel⟩ := DataW.trod_array hu hd0
  simp only [Prod.mk.injEq, DataW.agg.injEq] at hx
  refine R.mk' hlen.symm (Nat.le_refl _) ⟨g, 0, none⟩ rfl (fun i hi => ?_)
  have hin : i < n := by omega
  have h1 := hel i hin
  rw [hce, Nat.mul_one] at h1
  have hxi : i < xs.length := by omega
  rw [List.getElem?_eq_getElem hxi] at h1
  obtain ⟨k, e1, e2, _⟩ := DataW.trod_int hue h1
  have h2 : xs[i].1 = .lit (.int kd ((ns[i] : Nat) : Int)) := by
    have := congrArg (fun l => l[i]?) hx.1
    simp [hxi, hi] at this
    exact this.symm
  rw [e2] at h2
  simp only [DataW.lit.injEq, Lit.int.injEq, true_and] at h2
  subst h2
  have h3 := World.var?_cell hg hv0 i
  rw [cu _ _ rfl, ← afN]
  simp only [Nat.zero_add]
  rw [h3]
  have h4 := congrArg (fun l => l[0]?) e1
  simp [List.getElem?_take, List.getElem?_drop] at h4
  exact h4
end Go.Lift

namespace Go.Lift
open Go Go.RowKit
inductive Shape where
  | nil
  | bool
  | int (k : IntKind)
  | str
  | slice (e : Shape)
  | ptr (e : Shape)
  | cat (a b : Shape)
  deriving DecidableEq
def Shape.size : Shape → Nat
  | .nil => 0
  | .cat a b => a.size + b.size
  | _ => 1
structure Rows? (h : Heap) (sz : Nat) (s : Sl) (rows : List (List Value)) : Prop where
  len : s.len = rows.length
  cap : s.len ≤ s.cap
  max : s.cap ≤ maxLen
  cells : ∀ i (hi : i < rows.length), ∃ a, s.a = some a ∧ cells? h (a.add (i * sz)) sz 0 = some rows[i]
def Shape.Is (h : Heap) : Shape → List Value → Prop
  | .nil, cs => cs = []
  | .bool, cs => ∃ b, cs = [.bool b]
  | .int k, cs => ∃ n, cs = [.int k n] ∧ (Lit.int k n).wf = true
  | .str, cs => ∃ s, cs = [.string s] ∧ s.size ≤ maxLen
  | .slice e, cs => ∃ s : Sl, ∃ rows, cs = [Sl.toV s] ∧ Rows? h e.size s rows ∧ ∀ r ∈ rows, e.Is h r
  | .ptr e, cs => ∃ a : Option Addr, cs = [.pointer a] ∧ ∀ x, a = some x → ∃ r, cells? h x e.size 0 = some r ∧ e.Is h r
  | .cat a b, cs => ∃ l r, cs = l ++ r ∧ a.Is h l ∧ b.Is h r
def tK (P : Program) (g : TypeId → Option Shape) : Nat → List Field → Option Shape
  | _, [] => some .nil
  | off, f :: fs => if f.offset = off then (g f.type).bind fun a => if a.size = P.cellsOf f.type then (tK P g (off + P.cellsOf f.type) fs).map (.cat a) else none else none
def aez (a : Shape) : Nat → Shape
  | 0 => .nil
  | n + 1 => .cat a (aez a n)
def pZ (P : Program) : Nat → TypeId → Option Shape
  | 0, _ => none
  | n + 1, t =>
    match P.underlying t with
    | some .bool => some .bool
    | some (.int k) => some (.int k)
    | some .string => some .str
    | some (.slice e) => (pZ P n e).bind fun s => if s.size = P.cellsOf e then some (.slice s) else none
    | some (.pointer e) => (pZ P n e).bind fun s => if s.size = P.cellsOf e then some (.ptr s) else none
    | some (.struct fs) => (tK P (pZ P n) 0 fs.toList).bind fun s => if s.size = P.cellsOf t then some s else none
    | some (.array m e) => (pZ P n e).bind fun s => if s.size = P.cellsOf e ∧ m * s.size = P.cellsOf t then some (aez s m) else none
    | _ => none
theorem qF {w : World} {base : Nat} {a : Addr} {n : Nat} {cs : List Value} (h : w.cells? base a n = some cs) : cells? w.heap a n 0 = some cs := by
  have hm := World.cells?_some h
  have : ∀ m i, i + m = n → cells? w.heap a m i = some (cs.drop i) := by
    intro m
    induction m with
    | zero => intro i hi; simp only [cells?]; rw [List.drop_eq_nil_of_le]; have := hm.2.1; omega
    | succ m ih =>
      intro i hi
      have hlt : i < cs.length := by have := hm.2.1; omega
      simp only [cells?, ih (i + 1) (by omega)]
      have hc := hm.2.2 i (by omega)
      rw [afN] at hc
      rw [hc, List.getElem?_eq_getElem hlt]
      simp
  simpa using this n 0 (by omega)
section
variable {H : Type} {enc : TypeId × Value → H} {P : Program} {w : World} {base : Nat} {spare : Nat → Bool} {held : Bool}
theorem ajd {fuel : Nat} {t e : TypeId} {cs : List Value} {x : DataW H × List MemPlace} (ht : P.underlying t = some (.pointer e)) (h : DataW.trod enc P w base spare held fuel t cs = some x) :
    cs = [.pointer none] ∨ ∃ a n l y, cs = [.pointer (some a)] ∧ w.cells? base a (P.cellsOf e) = some l ∧ DataW.trod enc P w base spare held n e l = some y := by
  cases fuel with
  | zero => simp [DataW.trod] at h
  | succ n =>
    unfold DataW.trod at h
    rw [ht] at h
    split at h
    case h_5 => exact .inl rfl
    case h_6 =>
      rename_i e' a h1
      cases h1
      obtain ⟨y, h1, h2⟩ := Option.map_eq_some_iff.1 h
      obtain ⟨l, h3, h4⟩ := Option.bind_eq_some_iff.1 h1
      exact .inr ⟨a, n, l, y, rfl, h3, h4⟩
    all_goals simp_all
theorem ahW {g : TypeId → Option Shape} {n : Nat} {cs : List Value} {xs : List (DataW H × List MemPlace)}
    (hg : ∀ t s cs x, g t = some s → DataW.trod enc P w base spare held n t cs = some x → s.Is w.heap cs) :
    ∀ (fs : List Field) (k off : Nat) (s : Shape), tK P g off fs = some s → (∀ (i : Nat) (f : Field), fs[i]? = some f → DataW.trod enc P w base spare held n f.type ((cs.drop f.offset).take (P.cellsOf f.type)) = xs[k + i]?) →
      k + fs.length ≤ xs.length → cs.length = off + s.size → s.Is w.heap (cs.drop off) := by
  intro fs
  induction fs with
  | nil =>
    intro k off s hs _ _ hc
    simp only [tK, Option.some.injEq] at hs
    subst hs
    simp only [Shape.size] at hc
    exact List.drop_eq_nil_of_le (by omega)
  | cons f fs ih =>
    intro k off s hs hx hk hc
    unfold tK at hs
    by_cases ho : f.offset = off
    case neg => rw [if_neg ho] at hs; cases hs
    rw [if_pos ho] at hs
    obtain ⟨a, ha, h1⟩ := Option.bind_eq_some_iff.1 hs
    by_cases h2 : a.size = P.cellsOf f.type
    case neg => rw [if_neg h2] at h1; cases h1
    rw [if_pos h2] at h1
    obtain ⟨b, hb, rfl⟩ := Option.map_eq_some_iff.1 h1
    simp only [Shape.size] at hc
    have h0 := hx 0 f rfl
    simp only [List.length_cons] at hk
    rw [Nat.add_zero, List.getElem?_eq_getElem (by omega), ho] at h0
    refine ⟨(cs.drop off).take (P.cellsOf f.type), cs.drop (off + P.cellsOf f.type), ?_, hg _ _ _ _ ha h0, ?_⟩
    · rw [← List.drop_drop, List.take_append_drop]
    · refine ih (k + 1) _ b hb (fun i f' hf' => ?_) (by omega) (by omega)
      have := hx (i + 1) f' (by simpa using hf')
      rw [this]; congr 1; omega
theorem ajL {s : Shape} {n : Nat} {e : TypeId} {cs : List Value} {xs : List (DataW H × List MemPlace)} (hs : s.size = P.cellsOf e)
    (hg : ∀ cs x, DataW.trod enc P w base spare held n e cs = some x → s.Is w.heap cs) :
    ∀ (m k : Nat), (∀ i, i < m → DataW.trod enc P w base spare held n e ((cs.drop ((k + i) * P.cellsOf e)).take (P.cellsOf e)) = xs[k + i]?) →
      k + m ≤ xs.length → cs.length = (k + m) * s.size → (aez s m).Is w.heap (cs.drop (k * s.size)) := by
  intro m
  induction m with
  | zero => intro k _ _ hc; exact List.drop_eq_nil_of_le (by rw [hc]; simp)
  | succ m ih =>
    intro k hx hk hc
    have h0 := hx 0 (by omega)
    rw [Nat.add_zero, List.getElem?_eq_getElem (by omega)] at h0
    refine ⟨(cs.drop (k * s.size)).take s.size, cs.drop ((k + 1) * s.size), ?_, ?_, ?_⟩
    · rw [Nat.add_mul, Nat.one_mul, ← List.drop_drop, List.take_append_drop]
    · rw [hs]; exact hg _ _ h0
    · refine ih (k + 1) (fun i hi => ?_) (by omega) (by rw [hc]; congr 1; omega)
      have := hx (i + 1) (by omega)
      rw [show k + 1 + i = k + (i + 1) by omega]
      exact this
theorem ajs : ∀ (n : Nat) {t : TypeId} {s : Shape} {fuel : Nat} {cs : List Value} {x : DataW H × List MemPlace}, pZ P n t = some s → DataW.trod enc P w base spare held fuel t cs = some x → s.Is w.heap cs := by
  intro n
  induction n with
  | zero => intro t s fuel cs x hs; simp [pZ] at hs
  | succ n ih =>
    intro t s fuel cs x hs h
    unfold pZ at hs
    split at hs
    · rename_i ht
      simp only [Option.some.injEq] at hs
      subst hs
      cases fuel with
      | zero => simp [DataW.trod] at h
      | succ m => unfold DataW.trod at h; rw [ht] at h; split at h <;> simp_all [Shape.Is]
    · rename_i k ht
      simp only [Option.some.injEq] at hs
      subst hs
      obtain ⟨m, h1, _, h3⟩ := DataW.trod_int ht h
      exact ⟨m, h1, h3⟩
    · rename_i ht
      simp only [Option.some.injEq] at hs
      subst hs
      cases fuel with
      | zero => simp [DataW.trod] at h
      | succ m => unfold DataW.trod at h; rw [ht] at h; split at h <;> simp_all [Shape.Is]
    · rename_i e ht
      simp only [Option.bind_eq_some_iff] at hs
      obtain ⟨a, ha, h2⟩ := hs
      split at h2 <;> simp at h2
      rename_i hsz
      subst h2
      rcases DataW.trod_slice ht h with ⟨rfl, _⟩ | ⟨b, len, cap, elems, rest, m, _, rfl, _, hb, hl, hm, hlen, hel, _⟩
      · exact ⟨⟨none, 0, 0⟩, [], rfl, ⟨rfl, Nat.le_refl _, Nat.zero_le _, fun i hi => by simp at hi⟩, fun r hr => by simp at hr⟩
      have hc : ∀ i, i < len → ∃ l y, w.cells? base (b.add (i * P.cellsOf e)) (P.cellsOf e) = some l ∧ DataW.trod enc P w base spare held m e l = some y := by
        intro i hi
        have := hel i hi
        rw [List.getElem?_eq_getElem (by omega)] at this
        obtain ⟨l, h3, h4⟩ := Option.bind_eq_some_iff.1 this
        exact ⟨l, _, h3, h4⟩
      refine ⟨⟨some b, len, cap⟩, (List.range len).map fun i => ((w.cells? base (b.add (i * P.cellsOf e)) (P.cellsOf e)).getD []), rfl, ⟨by simp, hl, hm, fun i hi => ?_⟩, fun r hr => ?_⟩
      · simp at hi
        obtain ⟨l, y, h3, h4⟩ := hc i hi
        refine ⟨b, rfl, ?_⟩
        simp only [List.getElem_map, List.getElem_range, h3, Option.getD_some]
        rw [hsz]
        exact qF h3
      · simp only [List.mem_map, List.mem_range] at hr
        obtain ⟨i, hi, rfl⟩ := hr
        obtain ⟨l, y, h3, h4⟩ := hc i hi
        rw [h3]
        exact ih ha h4
    · rename_i e ht
      simp only [Option.bind_eq_some_iff] at hs
      obtain ⟨a, ha, h2⟩ := hs
      split at h2 <;> simp at h2
      rename_i hsz
      subst h2
      rcases ajd ht h with rfl | ⟨b, m, l, y, rfl, h3, h4⟩
      · exact ⟨none, rfl, fun x hx => by simp at hx⟩
      · exact ⟨some b, rfl, fun x hx => by cases hx; exact ⟨l, by rw [hsz]; exact qF h3, ih ha h4⟩⟩
    · rename_i fs ht
      simp only [Option.bind_eq_some_iff] at hs
      obtain ⟨a, ha, h2⟩ := hs
      split at h2 <;> simp at h2
      rename_i hsz
      subst h2
      obtain ⟨xs, m, rfl, _, hl, hn, hf⟩ := DataW.trod_struct ht h
      have := ahW (n := m) (xs := xs) (cs := cs) (fun t s cs x h1 h2 => ih h1 h2) fs.toList 0 0 a ha (fun i f hf' => by simpa using hf i f (by simpa using hf')) (by simp; omega) (by omega)
      simpa using this
    · rename_i m e ht
      simp only [Option.bind_eq_some_iff] at hs
      obtain ⟨a, ha, h2⟩ := hs
      split at h2 <;> simp at h2
      rename_i hsz
      subst h2
      obtain ⟨xs, k, rfl, _, hl, hn, hf⟩ := DataW.trod_array ht h
      have := ajL (n := k) (e := e) (xs := xs) (cs := cs) hsz.1 (fun cs x h2 => ih ha h2) m 0 (fun i hi => by simpa using hf i hi) (by omega) (by rw [hl]; simp [hsz.2])
      simpa using this
    · simp at hs
theorem ahb {n : Nat} {t : TypeId} {s : Shape} {v : Value} {d : DataW H} {ps : List MemPlace} (hs : pZ P n t = some s) (h : DataW.Trod enc P w base spare held t v d ps) : s.Is w.heap v.cells.toList := by
  obtain ⟨fuel, hf⟩ := h
  exact ajs n hs hf
end
theorem akZ {h : Heap} {k : IntKind} {cs : List Value} {m : Nat} (H : (Shape.slice (.int k)).Is h cs) (h0 : k.min = 0) (hm : k.max = (m : Int)) : ∃ s : Sl, ∃ xs : List Nat, cs = [Sl.toV s] ∧ RI k h s xs ∧ Lim (m + 1) xs ∧ s.cap ≤ maxLen := by
  obtain ⟨s, rows, rfl, hr, he⟩ := H
  have each : ∀ r ∈ rows, ∃ n : Nat, r = [.int k (n : Int)] ∧ n < m + 1 := by
    intro r hr
    obtain ⟨n, h1, h2⟩ := he r hr
    simp only [Lit.wf, Bool.and_eq_true, decide_eq_true_eq] at h2
    rw [h0, hm] at h2
    exact ⟨n.toNat, by rw [h1, Int.toNat_of_nonneg h2.1], by omega⟩
  refine ⟨s, rows.map fun r => match r with | [.int _ n] => n.toNat | _ => 0, rfl, ?_, ?_, hr.max⟩
  · rcases s with ⟨a, len, cap⟩
    cases a with
    | none =>
      have : rows = [] := by
        rcases rows with _ | ⟨r, l⟩
        · rfl
        · obtain ⟨a, ha, _⟩ := hr.cells 0 (by simp)
          simp at ha
      subst this
      have h1 := hr.len
      simp only [List.length_nil] at h1
      subst h1
      exact ⟨rfl, hr.cap, rfl⟩
    | some a =>
      refine R.mk' (by simpa using hr.len) hr.cap a rfl (fun i hi => ?_)
      simp at hi
      obtain ⟨a', ha, hc⟩ := hr.cells i hi
      simp only [Option.some.injEq] at ha
      subst ha
      obtain ⟨n, h1, _⟩ := each _ (List.getElem_mem hi)
      simp only [List.getElem_map, h1]
      rw [h1] at hc
      simp only [Shape.size, Nat.mul_one, cells?] at hc
      split at hc <;> simp at hc
      rename_i v r h3 h4
      obtain ⟨rfl, _⟩ := hc
      simpa [Addr.add] using h3
  · intro z hz
    simp only [List.mem_map] at hz
    obtain ⟨r, hr', rfl⟩ := hz
    obtain ⟨n, h1, h2⟩ := each r hr'
    rw [h1]
    simpa using h2
end Go.Lift

namespace Go.Lift
open Go Go.RowKit
structure IsBulk {H : Type} (bk : DataW H → Nat) (bl : List (DataW H) → Nat) : Prop where
  str : ∀ b : List UInt8, bk (.lit (.string b)) = b.length + 1
  ptr : ∀ d, bk (.ptr d) = bk d + 1
  slice : ∀ l r, bk (.slice l r) = bl l + bl r + 1
  agg : ∀ l, bk (.agg l) = bl l + 1
  nil : bl [] = 0
  cons : ∀ d l, bl (d :: l) = bk d + bl l
  one : ∀ d, 1 ≤ bk d
def Shape.IsB (B : Nat) (h : Heap) : Shape → List Value → Prop
  | .nil, cs => cs = []
  | .bool, cs => ∃ b, cs = [.bool b]
  | .int k, cs => ∃ n, cs = [.int k n] ∧ (Lit.int k n).wf = true
  | .str, cs => ∃ s, cs = [.string s] ∧ s.size ≤ B
  | .slice e, cs => ∃ s : Sl, ∃ rows, cs = [Sl.toV s] ∧ Rows? h e.size s rows ∧ s.len ≤ B ∧ ∀ r ∈ rows, e.IsB B h r
  | .ptr e, cs => ∃ a : Option Addr, cs = [.pointer a] ∧ ∀ x, a = some x → ∃ r, cells? h x e.size 0 = some r ∧ e.IsB B h r
  | .cat a b, cs => ∃ l r, cs = l ++ r ∧ a.IsB B h l ∧ b.IsB B h r
section
variable {H : Type} {enc : TypeId × Value → H} {P : Program} {w : World} {base : Nat} {spare : Nat → Bool} {held : Bool} {bk : DataW H → Nat} {bl : List (DataW H) → Nat} {B : Nat}
end
end Go.Lift

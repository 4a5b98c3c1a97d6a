/-
  Laws that the proof of this claim's statement leans on, each proved under the conditions that it states.
-/
import Derived.Test.YtafkahjfbiamlaaShQ
import Derived.Test.YtafkahjfbiamlaaFwE
set_option linter.unusedVariables false
set_option linter.unusedSimpArgs false
namespace Go.Que
/-- The one at a place. -/
def at0 (l : List Int) (i : Nat) : Int := l.getD i 0
/-- Comes aheadOf. -/
def aheadOf (sc : Int → Int) (u v : Int) : Prop := sc u > sc v ∨ sc u = sc v ∧ u < v
def upto (sc : Int → Int) (u v : Int) : Prop := ¬ aheadOf sc v u
variable {sc : Int → Int} {l : List Int} {n : Nat}
theorem upto_trans {a b c : Int} (h : upto sc a b) (k : upto sc b c) : upto sc a c := by unfold upto aheadOf at *; omega
theorem aheadOf_upto {a b : Int} (h : aheadOf sc a b) : upto sc a b := by unfold upto aheadOf at *; omega
theorem upto_refl (a : Int) : upto sc a a := by unfold upto aheadOf; omega
theorem upto_anti {a b : Int} (h : upto sc a b) (k : upto sc b a) : a = b := by unfold upto aheadOf at *; omega
def swap (l : List Int) (i j : Nat) : List Int := (l.set i (at0 l j)).set j (at0 l i)
theorem swap_len (l : List Int) (i j : Nat) : (swap l i j).length = l.length := by simp [swap]
theorem at_set (l : List Int) (i k : Nat) (x : Int) (hi : i < l.length) : at0 (l.set i x) k = if k = i then x else at0 l k := by
  unfold at0
  rw [List.getD_eq_getElem?_getD, List.getD_eq_getElem?_getD, List.getElem?_set]
  by_cases e : i = k
  · subst e; simp [hi]
  · have : k ≠ i := fun h => e h.symm
    simp [e, this]
theorem at_swap (l : List Int) {i j : Nat} (hi : i < l.length) (hj : j < l.length) (k : Nat) : at0 (swap l i j) k = if k = i then at0 l j else if k = j then at0 l i else at0 l k := by
  unfold swap
  rw [at_set _ _ _ _ (by simpa using hj), at_set _ _ _ _ hi]
  by_cases e : k = j
  · subst e
    by_cases e2 : k = i
    · subst e2; simp
    · simp [e2]
  · simp [e]
theorem at_mem {l : List Int} {i : Nat} (h : i < l.length) : at0 l i ∈ l := by
  unfold at0
  rw [List.getD_eq_getElem?_getD, List.getElem?_eq_getElem h]
  exact List.getElem_mem h
theorem mem_at {l : List Int} {x : Int} (h : x ∈ l) : ∃ i, i < l.length ∧ at0 l i = x := by
  obtain ⟨i, hi, e⟩ := List.getElem_of_mem h
  exact ⟨i, hi, by unfold at0; rw [List.getD_eq_getElem?_getD, List.getElem?_eq_getElem hi]; exact e⟩
/-- Each once. -/
def Once (l : List Int) : Prop := ∀ i j, i < l.length → j < l.length → at0 l i = at0 l j → i = j
theorem Once.swap (h : Once l) {i j : Nat} (hi : i < l.length) (hj : j < l.length) : Once (swap l i j) := by
  intro a b ha hb e
  rw [swap_len] at ha hb
  rw [at_swap l hi hj, at_swap l hi hj] at e
  have h1 := h i j hi hj; have h2 := h a b ha hb; have h3 := h a i ha hi; have h4 := h a j ha hj; have h5 := h b i hb hi; have h6 := h b j hb hj
  split at e <;> split at e <;> (try split at e) <;> (try split at e) <;> first | omega | (have := h1 e; omega) | (have := h2 e; omega) | (have := h3 e; omega) | (have := h4 e; omega) | (have := h5 e.symm; omega) | (have := h6 e.symm; omega) | (have := h1 e.symm; omega)
theorem swap_mem {i j : Nat} (hi : i < l.length) (hj : j < l.length) (x : Int) : x ∈ swap l i j ↔ x ∈ l := by
  constructor
  · intro h
    obtain ⟨k, hk, e⟩ := mem_at h
    rw [swap_len] at hk
    rw [at_swap l hi hj] at e
    split at e
    · exact e ▸ at_mem hj
    · split at e
      · exact e ▸ at_mem hi
      · exact e ▸ at_mem hk
  · intro h
    obtain ⟨k, hk, e⟩ := mem_at h
    have hm : ∀ m, m < l.length → at0 (swap l i j) m ∈ swap l i j := fun m hm => at_mem (by rw [swap_len]; exact hm)
    by_cases e1 : k = i
    · have := hm j hj
      rw [at_swap l hi hj] at this
      subst e1
      by_cases e2 : j = k
      · subst e2; rw [if_pos rfl] at this; rw [← e]; exact this
      · rw [if_neg e2, if_pos rfl] at this; rw [← e]; exact this
    · by_cases e2 : k = j
      · have := hm i hi
        rw [at_swap l hi hj, if_pos rfl] at this
        subst e2; rw [← e]; exact this
      · have := hm k hk
        rw [at_swap l hi hj, if_neg e1, if_neg e2] at this
        rw [← e]; exact this

/-- All pairs but those below a place. -/
structure Down (sc : Int → Int) (l : List Int) (n i : Nat) (lo : Nat) : Prop where
  pairs : ∀ c, 0 < c → c < n → lo ≤ (c - 1) / 2 → (c - 1) / 2 ≠ i → upto sc (at0 l ((c - 1) / 2)) (at0 l c)
  over : ∀ c, 0 < c → c < n → (c - 1) / 2 = i → 0 < i → lo ≤ (i - 1) / 2 → upto sc (at0 l ((i - 1) / 2)) (at0 l c)
/-- All pairs, of those from a place on. -/
def From (sc : Int → Int) (l : List Int) (n lo : Nat) : Prop := ∀ c, 0 < c → c < n → lo ≤ (c - 1) / 2 → upto sc (at0 l ((c - 1) / 2)) (at0 l c)
/-- All pairs but the one above a place. -/
structure Up (sc : Int → Int) (l : List Int) (n j : Nat) : Prop where
  pairs : ∀ c, 0 < c → c < n → c ≠ j → upto sc (at0 l ((c - 1) / 2)) (at0 l c)
  under : ∀ c, 0 < c → c < n → (c - 1) / 2 = j → 0 < j → upto sc (at0 l ((j - 1) / 2)) (at0 l c)

theorem Down.swap {i j lo : Nat} (h : Down sc l n i lo) (hn : n ≤ l.length) (hj : j < n) (h0 : 0 < j) (hp : (j - 1) / 2 = i) (hlo : lo ≤ i) (hb : ∀ c, 0 < c → c < n → (c - 1) / 2 = i → upto sc (at0 l j) (at0 l c)) (hl : aheadOf sc (at0 l j) (at0 l i)) :
    Down sc (swap l i j) n j lo := by
  have hi : i < n := by omega
  have hil : i < l.length := by omega
  have hjl : j < l.length := by omega
  refine ⟨fun c c0 cn cl cp => ?_, fun c c0 cn cp j0 cl => ?_⟩
  · rw [at_swap l hil hjl, at_swap l hil hjl]
    by_cases e1 : (c - 1) / 2 = i
    · rw [if_pos e1]
      have ci : c ≠ i := by omega
      rw [if_neg ci]
      by_cases e2 : c = j
      · rw [if_pos e2]; exact aheadOf_upto hl
      · rw [if_neg e2]; exact hb c c0 cn e1
    · rw [if_neg e1, if_neg cp]
      by_cases e2 : c = i
      · rw [if_pos e2]
        subst e2
        exact h.over j h0 hj hp c0 cl
      · rw [if_neg e2]
        by_cases e3 : c = j
        · subst e3; exact absurd hp e1
        · rw [if_neg e3]; exact h.pairs c c0 cn cl e1
  · have e : (j - 1) / 2 = i := hp
    rw [at_swap l hil hjl, at_swap l hil hjl, e, if_pos rfl]
    have : c ≠ i := by omega
    have : c ≠ j := by omega
    rw [if_neg ‹c ≠ i›, if_neg ‹c ≠ j›]
    have := h.pairs c c0 cn (by omega) (by omega)
    rw [cp] at this
    exact this
theorem Down.done {i lo : Nat} (h : Down sc l n i lo) (hb : ∀ c, 0 < c → c < n → (c - 1) / 2 = i → upto sc (at0 l i) (at0 l c)) : From sc l n lo := by
  intro c c0 cn cl
  by_cases e : (c - 1) / 2 = i
  · rw [e]; exact hb c c0 cn e
  · exact h.pairs c c0 cn cl e
theorem From.down {i : Nat} (h : From sc l n (i + 1)) : Down sc l n i i :=
  ⟨fun c c0 cn cl cp => h c c0 cn (by omega), fun c c0 cn cp i0 cl => absurd cl (by omega)⟩
theorem From.none {lo : Nat} (h : n ≤ 2 * lo + 1) : From sc l n lo := fun c c0 cn cl => absurd cl (by omega)

theorem Up.swap {j : Nat} (h : Up sc l n j) (hn : n ≤ l.length) (hj : j < n) (h0 : 0 < j) (hl : aheadOf sc (at0 l j) (at0 l ((j - 1) / 2))) : Up sc (swap l ((j - 1) / 2) j) n ((j - 1) / 2) := by
  have hil : (j - 1) / 2 < l.length := by omega
  have hjl : j < l.length := by omega
  generalize hi : (j - 1) / 2 = i at *
  refine ⟨fun c c0 cn cp => ?_, fun c c0 cn cp i0 => ?_⟩
  · rw [at_swap l hil hjl, at_swap l hil hjl]
    rw [if_neg cp]
    by_cases e1 : (c - 1) / 2 = i
    · rw [if_pos e1]
      by_cases e2 : c = j
      · rw [if_pos e2]; exact aheadOf_upto hl
      · rw [if_neg e2]
        have := h.pairs c c0 cn e2
        rw [e1] at this
        exact upto_trans (aheadOf_upto hl) this
    · rw [if_neg e1]
      by_cases e2 : c = j
      · subst e2; exact absurd hi e1
      · rw [if_neg e2]
        by_cases e3 : (c - 1) / 2 = j
        · rw [if_pos e3]
          have := h.under c c0 cn e3 h0
          rw [hi] at this
          exact this
        · rw [if_neg e3]; exact h.pairs c c0 cn e2
  · rw [at_swap l hil hjl, at_swap l hil hjl]
    have e4 : (i - 1) / 2 ≠ i := by omega
    have e5 : (i - 1) / 2 ≠ j := by omega
    have e6 : c ≠ i := by omega
    rw [if_neg e4, if_neg e5, if_neg e6]
    have hpi := h.pairs i i0 (by omega) (by omega)
    by_cases e2 : c = j
    · rw [if_pos e2]; exact hpi
    · rw [if_neg e2]
      have := h.pairs c c0 cn e2
      rw [cp] at this
      exact upto_trans hpi this
theorem Up.done {j : Nat} (h : Up sc l n j) (hb : 0 < j → upto sc (at0 l ((j - 1) / 2)) (at0 l j)) : From sc l n 0 := by
  intro c c0 cn cl
  by_cases e : c = j
  · subst e; exact hb c0
  · exact h.pairs c c0 cn e
/-- The first one is aheadOf of all. -/
theorem From.first (h : From sc l n 0) : ∀ c, c < n → upto sc (at0 l 0) (at0 l c) := by
  intro c
  induction c using Nat.strongRecOn with
  | _ c ih =>
    intro hc
    by_cases e : c = 0
    · subst e; exact upto_refl _
    · have h1 := ih ((c - 1) / 2) (by omega) (by omega)
      exact upto_trans h1 (h c (by omega) hc (by omega))
/-- A greater score for the one at a place: only the pair above it may be wrong. -/
theorem From.raise {sc' : Int → Int} (h : From sc l n 0) (ho : Once l) (hn : n ≤ l.length) {j : Nat} (hj : j < n) (hs : ∀ x, x ≠ at0 l j → sc' x = sc x) (hg : sc (at0 l j) ≤ sc' (at0 l j)) :
    Up sc' l n j ∧ ∀ c, 0 < c → c < n → (c - 1) / 2 = j → upto sc' (at0 l j) (at0 l c) := by
  have hne : ∀ k, k < n → k ≠ j → at0 l k ≠ at0 l j := fun k hk hkj e => hkj (ho k j (by omega) (by omega) e)
  have kids : ∀ c, 0 < c → c < n → (c - 1) / 2 = j → upto sc' (at0 l j) (at0 l c) := by
    intro c c0 cn cp
    have h1 := h c c0 cn (by omega)
    rw [cp] at h1
    have h2 := hs _ (hne c cn (by omega))
    unfold upto aheadOf at *
    omega
  refine ⟨⟨fun c c0 cn cp => ?_, fun c c0 cn cp j0 => ?_⟩, kids⟩
  · have h1 := h c c0 cn (by omega)
    by_cases e : (c - 1) / 2 = j
    · rw [e]; exact kids c c0 cn e
    · have h2 := hs _ (hne c cn cp)
      have h3 := hs _ (hne ((c - 1) / 2) (by omega) e)
      unfold upto aheadOf at *
      omega
  · have h1 := h c c0 cn (by omega)
    have h4 := h j j0 hj (by omega)
    rw [cp] at h1
    have h5 := upto_trans h4 h1
    have h2 := hs _ (hne c cn (by omega))
    have h3 := hs _ (hne ((j - 1) / 2) (by omega) (by omega))
    unfold upto aheadOf at *
    omega
end Go.Que

namespace Go.Sh
open Go Go.Lift Go.Que

theorem mem_ext {h : Heap} {k : Heap → Prop} (K : ∀ h', Ext h h' → k h') : mem h k := fun h' e => K h' ⟨e.size, fun b hb _ => e.same b hb⟩

/-! ### Rows of numbers -/
abbrev RJ (h : Heap) (s : Sl) (xs : List Int) : Prop := R (Value.int .i64) h s xs
abbrev OJ (h : Heap) (s : Sl) (xs : List Int) : Prop := Own (Value.int .i64) 0 h s xs
theorem at_get {xs : List Int} {j : Nat} (hj : j < xs.length) : at0 xs j = xs[j] := by
  unfold at0; rw [List.getD_eq_getElem?_getD, List.getElem?_eq_getElem hj]; rfl
theorem RJ.ld {h : Heap} {s : Sl} {xs : List Int} (hr : RJ h s xs) {i : Int} {j : Nat} {k : Int → Prop} (hij : i = (j : Int)) (hj : j < xs.length) (K : k (at0 xs j)) : idxS s i 1 fun a => Lift.load (Value.int .i64) a h k := by
  subst hij
  refine R.load hr (by omega) (by omega) ?_
  rw [at_get hj] at K
  exact K
theorem OJ.st {h : Heap} {s : Sl} {xs : List Int} (ho : OJ h s xs) {i : Int} {j : Nat} {y : Int} {k : Heap → Prop} (hij : i = (j : Int)) (hj : j < xs.length)
    (K : ∀ h', OJ h' s (xs.set j y) → Keep s.blk h h' → h'.size = h.size → k h') : idxS s i 1 fun a => Lift.store a (Value.int .i64 y) h k := by
  subst hij
  obtain ⟨a, ha, _⟩ := ho.r.get hj
  have := ho.r.len
  refine ⟨a, ha, ⟨by omega, by omega⟩, ?_⟩
  rw [Int.toNat_natCast, Nat.mul_one]
  exact Own.store ho hj ha y K
theorem OJ.take {h : Heap} {s : Sl} {xs : List Int} (ho : OJ h s xs) {i : Int} {j : Nat} {k : Sl → Prop} (hij : i = (j : Int)) (hj : j ≤ xs.length) (K : ∀ s', OJ h s' (xs.take j) → s'.blk = s.blk → k s') : sliceOf s none (some i) none 1 k := by
  subst hij
  have hl := ho.r.len
  have hc := ho.r.cap
  have H := R.take (i := (j : Int)) (k := fun s' => RJ h s' (xs.take j)) ho.r (by omega) (by omega) (fun s' h1 _ _ _ => by simpa using h1)
  obtain ⟨h1, h2, h3, h4⟩ := H
  refine ⟨h1, h2, h3, K _ ⟨h4, ?_⟩ ?_⟩
  · simp only [Option.getD_none, Option.getD_some, Int.toNat_zero, Nat.sub_zero, Nat.zero_mul, Int.toNat_natCast]
    have hadd : ∀ o : Option Addr, o.map (fun a => a.add 0) = o := by
      intro o; cases o <;> simp [Addr.add]
    have heq : (if (s.cap : Int) = 0 then s.a else s.a.map (fun a => a.add 0)) = s.a := by rw [hadd]; simp
    rw [heq]
    exact ho.own
  · simp only [Option.getD_none, Int.toNat_zero, Nat.zero_mul]
    have hadd : ∀ o : Option Addr, o.map (fun a => a.add 0) = o := by
      intro o; cases o <;> simp [Addr.add]
    have heq : (if (s.cap : Int) = 0 then s.a else s.a.map (fun a => a.add 0)) = s.a := by rw [hadd]; simp
    simp only [Sl.blk]
    rw [heq]

/-! ### What may be turned -/
structure Fr (Z : Nat → Prop) (h h' : Heap) : Prop where
  size : h.size ≤ h'.size
  same : ∀ b, b < h.size → ¬ Z b → h'[b]? = h[b]?
theorem Fr.refl (Z : Nat → Prop) (h : Heap) : Fr Z h h := ⟨Nat.le_refl _, fun _ _ _ => rfl⟩
theorem Fr.trans {Z : Nat → Prop} {a b c : Heap} (h : Fr Z a b) (k : Fr Z b c) : Fr Z a c :=
  ⟨Nat.le_trans h.size k.size, fun i hi hz => (k.same i (Nat.lt_of_lt_of_le hi h.size) hz).trans (h.same i hi hz)⟩
theorem Fr.ext {Z : Nat → Prop} {a b : Heap} (h : Ext a b) : Fr Z a b := ⟨h.size, fun i hi _ => h.same i hi (by simp)⟩
theorem Fr.keep {Z : Nat → Prop} {o : Option Nat} {a b : Heap} (h : Keep o a b) (ho : ∀ i, o = some i → Z i) : Fr Z a b :=
  ⟨h.size, fun i hi hz => h.same i hi (fun e => hz (ho i e.symm))⟩

/-- A queue in memory. -/
structure QS (Z : Nat → Prop) (h : Heap) (a : Addr) (s t : Sl) (sc l : List Int) : Prop where
  spot : a.spot = none
  c0 : cell? h (a.add 0) = some (Sl.toV s)
  c1 : cell? h (a.add 1) = some (Sl.toV t)
  f1 : frozen? h (a.add 1) = false
  so : OJ h s sc
  to : OJ h t l
  d1 : s.blk ≠ some a.block
  d2 : t.blk ≠ some a.block
  d3 : ∀ b, s.blk = some b → t.blk ≠ some b
  za : Z a.block
  zs : ∀ b, s.blk = some b → Z b
  zt : ∀ b, t.blk = some b → Z b
  zn : ∀ b, h.size ≤ b → Z b
  rng : ∀ x ∈ sc, 0 ≤ x ∧ x ≤ 1152921504606846976
  mem : ∀ v ∈ l, 0 ≤ v ∧ v < (sc.length : Int)
  once : Once l
  lens : sc.length ≤ 1048576
  lenl : l.length ≤ 1048576
/-- The scores. -/
def scf (sc : List Int) (v : Int) : Int := at0 sc v.toNat

variable {Z : Nat → Prop} {h h' : Heap} {a : Addr} {s t : Sl} {sc l : List Int}
theorem QS.ext (q : QS Z h a s t sc l) (e : Ext h h') : QS Z h' a s t sc l :=
  { q with c0 := cell_keep e q.c0 (by simp), c1 := cell_keep e q.c1 (by simp), f1 := frozen_keep e (cell_lt q.c1) q.f1 (by simp), so := q.so.ext e, to := q.to.ext e, zn := fun b hb => q.zn b (Nat.le_trans e.size hb) }
theorem QS.ld0 (q : QS Z h a s t sc l) {k : Sl → Prop} (K : k s) : nilChk (some a) fun a' => Lift.load Sl.toV (a'.add 0) h k := ⟨a, rfl, s, q.c0, K⟩
theorem QS.ld1 (q : QS Z h a s t sc l) {k : Sl → Prop} (K : k t) : nilChk (some a) fun a' => Lift.load Sl.toV (a'.add 1) h k := ⟨a, rfl, t, q.c1, K⟩
/-- Another row of those that are in. -/
theorem QS.setL (q : QS Z h a s t sc l) {l' : List Int} (ho : OJ h' t l') (k : Keep t.blk h h') (hm : ∀ v ∈ l', v ∈ l) (on : Once l') (hl : l'.length ≤ l.length) : QS Z h' a s t sc l' :=
  { q with
    c0 := cell_keep k q.c0 (by rw [addr_add_block]; exact fun e => q.d2 e.symm)
    c1 := cell_keep k q.c1 (by rw [addr_add_block]; exact fun e => q.d2 e.symm)
    f1 := frozen_keep k (cell_lt q.c1) q.f1 (by rw [addr_add_block]; exact fun e => q.d2 e.symm)
    so := q.so.keep k (fun b hb e => q.d3 b hb e.symm)
    to := ho
    zn := fun b hb => q.zn b (Nat.le_trans k.size hb)
    mem := fun v hv => q.mem v (hm v hv)
    once := on
    lenl := Nat.le_trans hl q.lenl }
theorem QS.setS (q : QS Z h a s t sc l) {sc' : List Int} (ho : OJ h' s sc') (k : Keep s.blk h h') (hr : ∀ x ∈ sc', 0 ≤ x ∧ x ≤ 1152921504606846976) (hl : sc'.length = sc.length) : QS Z h' a s t sc' l :=
  { q with
    c0 := cell_keep k q.c0 (by rw [addr_add_block]; exact fun e => q.d1 e.symm)
    c1 := cell_keep k q.c1 (by rw [addr_add_block]; exact fun e => q.d1 e.symm)
    f1 := frozen_keep k (cell_lt q.c1) q.f1 (by rw [addr_add_block]; exact fun e => q.d1 e.symm)
    so := ho
    to := q.to.keep k (fun b hb e => q.d3 b e.symm hb)
    zn := fun b hb => q.zn b (Nat.le_trans k.size hb)
    rng := hr
    mem := fun v hv => by rw [hl]; exact q.mem v hv
    lens := by rw [hl]; exact q.lens }

theorem Len_spec {Q : Int → Heap → Prop} (q : QS Z h a s t sc l) (K : ∀ h', Ext h h' → Q (l.length : Int) h') : queue_ranks_Len (some a) h Q := by
  refine mem_ext fun h0 e0 => (q.ext e0).ld1 ?_
  rw [q.to.r.len]
  exact K h0 e0
theorem score_ld (q : QS Z h a s t sc l) {v : Int} {k : Int → Prop} (hv : v ∈ l) (K : k (scf sc v)) : idxS s v 1 fun a => Lift.load (Value.int .i64) a h k := by
  obtain ⟨h1, h2⟩ := q.mem v hv
  exact RJ.ld q.so.r (j := v.toNat) (by omega) (by omega) K
theorem Less_spec {Q : Bool → Heap → Prop} (q : QS Z h a s t sc l) {i j : Int} {m n : Nat} (hi : i = (m : Int)) (hj : j = (n : Int)) (hm : m < l.length) (hn : n < l.length)
    (K : ∀ b h', (b = true ↔ aheadOf (scf sc) (at0 l m) (at0 l n)) → Ext h h' → Q b h') : queue_ranks_Less (some a) i j h Q := by
  refine mem_ext fun h0 e0 => ?_
  have q := q.ext e0
  refine q.ld1 (RJ.ld q.to.r hi hm (q.ld1 (RJ.ld q.to.r hj hn (q.ld0 (score_ld q (at_mem hm) (q.ld0 (score_ld q (at_mem hn) ?_)))))))
  refine ⟨fun hne => K _ h0 ?_ e0, fun he => K _ h0 ?_ e0⟩
  · simp only [bne_iff_ne, ne_eq] at hne
    rw [decide_eq_true_eq]
    unfold aheadOf
    omega
  · simp only [bne_eq_false_iff_eq] at he
    rw [decide_eq_true_eq]
    unfold aheadOf
    omega
theorem Swap_spec {Q : Unit → Heap → Prop} (q : QS Z h a s t sc l) {i j : Int} {m n : Nat} (hi : i = (m : Int)) (hj : j = (n : Int)) (hm : m < l.length) (hn : n < l.length)
    (K : ∀ h', QS Z h' a s t sc (swap l m n) → Fr Z h h' → Q () h') : queue_ranks_Swap (some a) i j h Q := by
  refine mem_ext fun h0 e0 => ?_
  have q := q.ext e0
  refine q.ld1 (q.ld1 (q.ld1 (RJ.ld q.to.r hj hn (q.ld1 (RJ.ld q.to.r hi hm ?_)))))
  refine OJ.st q.to hi hm fun h1 o1 k1 _ => ?_
  refine OJ.st o1 hj (by simpa using hn) fun h2 o2 k2 _ => ?_
  refine K h2 (q.setL o2 (k1.trans k2) (fun v hv => (swap_mem hm hn v).1 hv) (q.once.swap hm hn) (by rw [swap_len]; exact Nat.le_refl _)) ?_
  exact (Fr.ext e0).trans (Fr.keep (k1.trans k2) q.zt)
end Go.Sh

namespace Go.Sh
open Go Go.Lift Go.Que
variable {Z : Nat → Prop} {h h' : Heap} {a : Addr} {s t : Sl} {sc l : List Int}

theorem down_core {I : Nat → List Int → Prop} {i0 n : Nat} {Q : Bool → Heap → Prop} (q : QS Z h a s t sc l) (hn : n ≤ l.length) (hi0 : i0 ≤ l.length) (h0 : I i0 l)
    (step : ∀ i l' j, I i l' → l'.length = l.length → j < n → 0 < j → (j - 1) / 2 = i → (∀ c, 0 < c → c < n → (c - 1) / 2 = i → upto (scf sc) (at0 l' j) (at0 l' c)) → aheadOf (scf sc) (at0 l' j) (at0 l' i) → I j (swap l' i j))
    (K : ∀ i l' h', I i l' → QS Z h' a s t sc l' → Fr Z h h' → l'.length = l.length → (∀ x, x ∈ l' ↔ x ∈ l) → (∀ k, n ≤ k → at0 l' k = at0 l k) → (∀ c, 0 < c → c < n → (c - 1) / 2 = i → upto (scf sc) (at0 l' i) (at0 l' c)) → Q (decide ((i : Int) > (i0 : Int))) h') :
    container_heap_down__t88 (some a) (i0 : Int) (n : Int) h Q := by
  have hl := q.lenl
  refine seq.cut (fun (t0 : Int) h1 => ∃ (i : Nat) (l' : List Int), t0 = (i : Int) ∧ I i l' ∧ QS Z h1 a s t sc l' ∧ Fr Z h h1 ∧ l'.length = l.length ∧ (∀ x, x ∈ l' ↔ x ∈ l) ∧ (∀ k, n ≤ k → at0 l' k = at0 l k) ∧ (∀ c, 0 < c → c < n → (c - 1) / 2 = i → upto (scf sc) (at0 l' i) (at0 l' c))) ?_ ?_
  · refine loop.inv (fun (s0 : Int) h1 => ∃ (i : Nat) (l' : List Int), s0 = (i : Int) ∧ i ≤ l.length ∧ I i l' ∧ QS Z h1 a s t sc l' ∧ Fr Z h h1 ∧ l'.length = l.length ∧ (∀ x, x ∈ l' ↔ x ∈ l) ∧ (∀ k, n ≤ k → at0 l' k = at0 l k)) (fun s0 _ => (l.length + 1 - s0.toNat)) ⟨i0, l, rfl, hi0, h0, q, Fr.refl _ _, rfl, fun _ => Iff.rfl, fun _ _ => rfl⟩ ?_
    rintro s0 h1 ⟨i, l', rfl, hi, hI, q1, f1, e1, m1, r1⟩
    dsimp only
    rw [w64 (n := 2 * (i : Int)) (by omega) (by omega), w64 (by omega) (by omega)]
    rintro j1 rfl
    refine seq.cut (fun (t : Bool) h2 => h2 = h1 ∧ (t = true ↔ n ≤ 2 * i + 1)) ?_ ?_
    · refine ⟨fun hb => ⟨rfl, ?_⟩, fun hb => ⟨rfl, ?_⟩⟩
      · simp only [ge_iff_le, decide_eq_true_eq] at hb
        simp; omega
      · simp only [ge_iff_le, decide_eq_false_iff_not] at hb
        simp only [decide_eq_true_eq]; omega
    · rintro tb h2 ⟨rfl, htb⟩
      refine ⟨fun hb => ?_, fun hb => ?_⟩
      · have := htb.1 hb
        exact ⟨i, l', rfl, hI, q1, f1, e1, m1, r1, fun c c0 cn cp => absurd cp (by omega)⟩
      have hj1 : ¬ n ≤ 2 * i + 1 := fun hh => by rw [htb.2 hh] at hb; cases hb
      refine seq.cut (fun (jj : Int) h3 => ∃ j : Nat, jj = (j : Int) ∧ j < n ∧ 0 < j ∧ (j - 1) / 2 = i ∧ Ext h2 h3 ∧ (∀ c, 0 < c → c < n → (c - 1) / 2 = i → upto (scf sc) (at0 l' j) (at0 l' c))) ?_ ?_
      · rw [w64 (by omega) (by omega)]
        rintro j2 rfl
        refine seq.cut (fun (tt : Bool) h3 => Ext h2 h3 ∧ (tt = true ↔ 2 * i + 2 < n ∧ aheadOf (scf sc) (at0 l' (2 * i + 2)) (at0 l' (2 * i + 1)))) ?_ ?_
        · refine ⟨fun hc => ?_, fun hc => ?_⟩
          · simp only [decide_eq_true_eq] at hc
            refine Less_spec q1 (m := 2 * i + 2) (n := 2 * i + 1) (by omega) (by omega) (by omega) (by omega) fun b h3 hb3 e3 => ⟨e3, ?_⟩
            rw [hb3]
            exact ⟨fun h => ⟨by omega, h⟩, fun h => h.2⟩
          · simp only [decide_eq_false_iff_not] at hc
            refine ⟨Keep.refl _ _, ?_⟩
            simp only [Bool.false_eq_true, false_iff]
            exact fun h => hc (by omega)
        · rintro tt h3 ⟨e3, ht⟩
          refine ⟨fun hc => ?_, fun hc => ?_⟩
          · obtain ⟨hlt, had⟩ := ht.1 hc
            refine ⟨2 * i + 2, by omega, hlt, by omega, by omega, e3, fun c c0 cn cp => ?_⟩
            have : c = 2 * i + 1 ∨ c = 2 * i + 2 := by omega
            rcases this with rfl | rfl
            · exact aheadOf_upto had
            · exact upto_refl _
          · refine ⟨2 * i + 1, by omega, by omega, by omega, by omega, e3, fun c c0 cn cp => ?_⟩
            have : c = 2 * i + 1 ∨ c = 2 * i + 2 := by omega
            rcases this with rfl | rfl
            · exact upto_refl _
            · intro had
              have := ht.2 ⟨cn, had⟩
              rw [this] at hc; cases hc
      · rintro jj h3 ⟨j, rfl, hjn, hj0, hjp, e3, hbest⟩
        have q2 := q1.ext e3
        refine Less_spec q2 (m := j) (n := i) rfl rfl (by omega) (by omega) fun b h4 hb4 e4 => ?_
        have q3 := q2.ext e4
        have f3 := f1.trans (Fr.ext (e3.trans e4))
        refine ⟨fun hnb => ?_, fun hnb => ?_⟩
        · have hnb : b = false := by simpa using hnb
          refine ⟨i, l', rfl, hI, q3, f3, e1, m1, r1, fun c c0 cn cp => ?_⟩
          have h1 : upto (scf sc) (at0 l' i) (at0 l' j) := fun had => by rw [hb4.2 had] at hnb; cases hnb
          exact upto_trans h1 (hbest c c0 cn cp)
        · have hnb : b = true := by simpa using hnb
          have had := hb4.1 hnb
          refine Swap_spec q3 (m := i) (n := j) rfl rfl (by omega) (by omega) fun h5 q5 f5 => ?_
          refine ⟨⟨j, swap l' i j, rfl, by omega, step i l' j hI e1 hjn hj0 hjp hbest had, q5, f3.trans f5, by rw [swap_len]; exact e1, fun x => (swap_mem (by omega) (by omega) x).trans (m1 x), fun k hk => ?_⟩, ?_⟩
          · rw [at_swap l' (by omega) (by omega), if_neg (by omega), if_neg (by omega)]; exact r1 k hk
          · simp only [Int.toNat_natCast]; omega
  · rintro t0 h1 ⟨i, l', rfl, hI, q1, f1, e1, m1, r1, ok⟩
    exact K i l' h1 hI q1 f1 e1 m1 r1 ok

theorem down_spec {i0 n lo : Nat} {Q : Bool → Heap → Prop} (q : QS Z h a s t sc l) (hn : n ≤ l.length) (hi0 : i0 ≤ l.length) (hd : Down (scf sc) l n i0 lo) (hlo : lo ≤ i0)
    (K : ∀ b l' h', QS Z h' a s t sc l' → Fr Z h h' → l'.length = l.length → (∀ x, x ∈ l' ↔ x ∈ l) → (∀ k, n ≤ k → at0 l' k = at0 l k) → From (scf sc) l' n lo → Q b h') :
    container_heap_down__t88 (some a) (i0 : Int) (n : Int) h Q := by
  refine down_core (I := fun i l' => lo ≤ i ∧ Down (scf sc) l' n i lo) q hn hi0 ⟨hlo, hd⟩ ?_ ?_
  · rintro i l' j ⟨h1, h2⟩ hl hj hj0 hp hb had
    exact ⟨by omega, h2.swap (by omega) hj hj0 hp h1 hb had⟩
  · rintro i l' h' ⟨h1, h2⟩ q' f' e' m' r' ok
    exact K _ l' h' q' f' e' m' r' (h2.done ok)
/-- Nothing comes aheadOf of the one at a place, below it: it stays there. -/
theorem down_still {i0 n : Nat} {Q : Bool → Heap → Prop} (q : QS Z h a s t sc l) (hn : n ≤ l.length) (hi0 : i0 ≤ l.length) (hok : ∀ c, 0 < c → c < n → (c - 1) / 2 = i0 → upto (scf sc) (at0 l i0) (at0 l c))
    (K : ∀ h', QS Z h' a s t sc l → Fr Z h h' → Q false h') : container_heap_down__t88 (some a) (i0 : Int) (n : Int) h Q := by
  refine down_core (I := fun i l' => i = i0 ∧ l' = l) q hn hi0 ⟨rfl, rfl⟩ ?_ ?_
  · rintro i l' j ⟨rfl, rfl⟩ hl hj hj0 hp hb had
    exact absurd had (hok j hj0 hj hp)
  · rintro i l' h' ⟨rfl, rfl⟩ q' f' e' m' r' ok
    have : decide ((i : Int) > (i : Int)) = false := by simp
    rw [this]
    exact K h' q' f'

theorem up_spec {j0 : Nat} {Q : Unit → Heap → Prop} (q : QS Z h a s t sc l) (hj : j0 < l.length) (hu : Up (scf sc) l l.length j0)
    (K : ∀ l' h', QS Z h' a s t sc l' → Fr Z h h' → l'.length = l.length → (∀ x, x ∈ l' ↔ x ∈ l) → From (scf sc) l' l'.length 0 → Q () h') :
    container_heap_up__t88 (some a) (j0 : Int) h Q := by
  have hl := q.lenl
  refine loop.inv (fun (s0 : Int) h1 => ∃ (j : Nat) (l' : List Int), s0 = (j : Int) ∧ j < l.length ∧ Up (scf sc) l' l.length j ∧ QS Z h1 a s t sc l' ∧ Fr Z h h1 ∧ l'.length = l.length ∧ (∀ x, x ∈ l' ↔ x ∈ l)) (fun s0 _ => s0.toNat) ⟨j0, l, rfl, hj, hu, q, Fr.refl _ _, rfl, fun _ => Iff.rfl⟩ ?_
  rintro s0 h1 ⟨j, l', rfl, hjl, hU, q1, f1, e1, m1⟩
  dsimp only
  have e : IntKind.wrap .i64 (Int.tdiv (IntKind.wrap .i64 ((j : Int) - 1)) 2) = (((j - 1) / 2 : Nat) : Int) := by
    rw [w64 (n := (j : Int) - 1) (by omega) (by omega)]
    by_cases hj0 : j = 0
    · subst hj0; rfl
    · have : ((j : Int) - 1) = ((j - 1 : Nat) : Int) := by omega
      rw [this]
      have : Int.tdiv ((j - 1 : Nat) : Int) 2 = (((j - 1) / 2 : Nat) : Int) := rfl
      rw [this]
      exact w64 (by omega) (by omega)
  rw [e]
  rintro i rfl
  refine seq.cut (fun (t : Bool) h2 => Ext h1 h2 ∧ (t = false → 0 < j ∧ aheadOf (scf sc) (at0 l' j) (at0 l' ((j - 1) / 2))) ∧ (t = true → 0 < j → upto (scf sc) (at0 l' ((j - 1) / 2)) (at0 l' j))) ?_ ?_
  · refine ⟨fun hb => ?_, fun hb => ?_⟩
    · simp only [beq_iff_eq] at hb
      exact ⟨Keep.refl _ _, by simp, fun _ h0 => absurd hb (by omega)⟩
    · simp only [beq_eq_false_iff_ne, ne_eq] at hb
      refine Less_spec q1 (m := j) (n := (j - 1) / 2) rfl rfl (by omega) (by omega) fun b h3 hb3 e3 => ⟨e3, fun hf => ⟨by omega, hb3.1 (by simpa using hf)⟩, fun hf _ had => ?_⟩
      rw [hb3.2 had] at hf; cases hf
  · rintro tb h2 ⟨e2, t1, t2⟩
    have q2 := q1.ext e2
    have f2 := f1.trans (Fr.ext e2)
    refine ⟨fun hb => ?_, fun hb => ?_⟩
    · exact K l' h2 q2 f2 e1 m1 (by rw [e1]; exact hU.done (t2 hb))
    · obtain ⟨hj0, had⟩ := t1 hb
      refine Swap_spec q2 (m := (j - 1) / 2) (n := j) rfl rfl (by omega) (by omega) fun h5 q5 f5 => ?_
      refine ⟨⟨(j - 1) / 2, swap l' ((j - 1) / 2) j, rfl, by omega, ?_, q5, f2.trans f5, by rw [swap_len]; exact e1, fun x => (swap_mem (by omega) (by omega) x).trans (m1 x)⟩, ?_⟩
      · exact hU.swap (by omega) (by omega) hj0 had
      · simp only [Int.toNat_natCast]; omega

/-- All that a queue must be. -/
def Heaped (sc l : List Int) : Prop := From (scf sc) l l.length 0

theorem Fix_spec {j : Nat} {Q : Unit → Heap → Prop} (q : QS Z h a s t sc l) (hj : j < l.length) (hu : Up (scf sc) l l.length j) (hk : ∀ c, 0 < c → c < l.length → (c - 1) / 2 = j → upto (scf sc) (at0 l j) (at0 l c))
    (K : ∀ l' h', QS Z h' a s t sc l' → Fr Z h h' → l'.length = l.length → (∀ x, x ∈ l' ↔ x ∈ l) → Heaped sc l' → Q () h') : container_heap_Fix__t88 (some a) (j : Int) h Q := by
  refine Len_spec q fun h1 e1 => ?_
  refine down_still (q.ext e1) (Nat.le_refl _) (by omega) hk fun h2 q2 f2 => ?_
  refine ⟨fun _ => ?_, fun hb => by simp at hb⟩
  refine up_spec q2 hj hu fun l' h3 q3 f3 e3 m3 hf => ?_
  exact K l' h3 q3 (((Fr.ext e1).trans f2).trans f3) e3 m3 hf

theorem there_spec {v : Int} {Q : Bool → Heap → Prop} (q : QS Z h a s t sc l) (K : ∀ b, (b = true ↔ 0 ≤ v ∧ v < (sc.length : Int)) → Q b h) : queue_there (some a) v h Q := by
  refine seq.cut (fun (b : Bool) h2 => h2 = h ∧ (b = true ↔ 0 ≤ v ∧ v < (sc.length : Int))) ?_ ?_
  · refine ⟨fun hv => q.ld0 ⟨rfl, ?_⟩, fun hv => ⟨rfl, ?_⟩⟩
    · simp only [ge_iff_le, decide_eq_true_eq] at hv
      rw [q.so.r.len, decide_eq_true_eq]
      exact ⟨fun h => ⟨hv, h⟩, fun h => h.2⟩
    · simp only [ge_iff_le, decide_eq_false_iff_not] at hv
      simp only [Bool.false_eq_true, false_iff]
      exact fun h => hv h.1
  · rintro b h2 ⟨rfl, hb⟩
    exact K b hb
theorem Index_spec {xs : List Int} {s0 : Sl} {v : Int} {Q : Int → Heap → Prop} (hr : RJ h s0 xs) (hl : xs.length ≤ 1048576) (K : ∀ r, (r = -1 ∧ v ∉ xs) ∨ (∃ j, j < xs.length ∧ r = (j : Int) ∧ at0 xs j = v) → Q r h) : slices_Index_int_int s0 v h Q := by
  have hlen := hr.len
  refine loop.inv (fun (i : Int) h1 => h1 = h ∧ ∃ j : Nat, i = (j : Int) ∧ j ≤ xs.length ∧ ∀ k, k < j → at0 xs k ≠ v) (fun i _ => xs.length - i.toNat) ⟨rfl, 0, rfl, Nat.zero_le _, fun k hk => absurd hk (by omega)⟩ ?_
  rintro i h1 ⟨rfl, j, rfl, hj, hno⟩
  refine ⟨fun hlt => ?_, fun hge => ?_⟩
  · simp only [decide_eq_true_eq] at hlt
    refine RJ.ld hr (j := j) rfl (by omega) ⟨fun he => ?_, fun hne => ?_⟩
    · simp only [beq_iff_eq] at he
      exact K _ (.inr ⟨j, by omega, rfl, he.symm⟩)
    · simp only [beq_eq_false_iff_ne, ne_eq] at hne
      rw [w64 (by omega) (by omega)]
      refine ⟨⟨rfl, j + 1, by omega, by omega, fun k hk => ?_⟩, by simp only [Int.toNat_natCast]; omega⟩
      by_cases e : k = j
      · subst e; exact fun h => hne h.symm
      · exact hno k (by omega)
  · simp only [decide_eq_false_iff_not] at hge
    refine K _ (.inl ⟨rfl, fun hm => ?_⟩)
    obtain ⟨k, hk, e⟩ := mem_at hm
    exact hno k (by omega) e

theorem scf_set {sc : List Int} {v : Nat} (hv : v < sc.length) (y : Int) (x : Int) (hx : 0 ≤ x) : scf (sc.set v y) x = if x = (v : Int) then y else scf sc x := by
  unfold scf
  rw [at_set _ _ _ _ hv]
  by_cases e : x = (v : Int)
  · subst e; simp
  · have : x.toNat ≠ v := by omega
    rw [if_neg this, if_neg e]
/-- The error's number. -/
def bumpE (sc : List Int) (v by0 : Int) : Int := if 0 ≤ v ∧ v < (sc.length : Int) then if by0 < 0 then 1 else if by0 > 1152921504606846976 - scf sc v then 6 else 0 else 2
theorem heaped_scf {sc sc' l : List Int} (h : Heaped sc l) (he : ∀ x ∈ l, scf sc' x = scf sc x) : Heaped sc' l := by
  intro c c0 cn cl
  have h1 := h c c0 cn cl
  have e1 := he _ (at_mem cn)
  have e2 := he _ (at_mem (show (c - 1) / 2 < l.length by omega))
  unfold upto aheadOf at *
  omega
theorem Bump_spec {v by0 : Int} {Q : Int → Heap → Prop} (q : QS Z h a s t sc l) (hh : Heaped sc l)
    (Kbad : bumpE sc v by0 ≠ 0 → Q (bumpE sc v by0) h)
    (K : bumpE sc v by0 = 0 → ∀ l' h', QS Z h' a s t (sc.set v.toNat (scf sc v + by0)) l' → Fr Z h h' → l'.length = l.length → (∀ x, x ∈ l' ↔ x ∈ l) → Heaped (sc.set v.toNat (scf sc v + by0)) l' → Q 0 h') :
    queue_Bump (some a) v by0 h Q := by
  refine there_spec q fun b hb => ⟨fun hn => ?_, fun hy => ?_⟩
  · have : b = false := by simpa using hn
    have he : bumpE sc v by0 = 2 := by
      unfold bumpE
      rw [if_neg (fun h => by rw [hb.2 h] at this; cases this)]
    rw [← he]
    exact Kbad (by rw [he]; decide)
  have hv := hb.1 (by simpa using hy)
  refine ⟨fun hneg => ?_, fun hpos => ?_⟩
  · simp only [decide_eq_true_eq] at hneg
    have he : bumpE sc v by0 = 1 := by unfold bumpE; rw [if_pos hv, if_pos hneg]
    rw [← he]
    exact Kbad (by rw [he]; decide)
  simp only [decide_eq_false_iff_not] at hpos
  refine q.ld0 (RJ.ld q.so.r (j := v.toNat) (by omega) (by omega) ?_)
  have hmem : at0 sc v.toNat ∈ sc := at_mem (by omega)
  have hr := q.rng _ hmem
  have hsc : at0 sc v.toNat = scf sc v := rfl
  rw [hsc] at hr ⊢
  rw [w64 (by omega) (by omega)]
  refine ⟨fun hbig => ?_, fun hok => ?_⟩
  · simp only [gt_iff_lt, decide_eq_true_eq] at hbig
    have he : bumpE sc v by0 = 6 := by unfold bumpE; rw [if_pos hv, if_neg hpos, if_pos hbig]
    rw [← he]
    exact Kbad (by rw [he]; decide)
  simp only [gt_iff_lt, decide_eq_false_iff_not] at hok
  have he : bumpE sc v by0 = 0 := by unfold bumpE; rw [if_pos hv, if_neg hpos, if_neg hok]
  have K := K he
  refine q.ld0 (RJ.ld q.so.r (j := v.toNat) (by omega) (by omega) ?_)
  rw [hsc, w64 (by omega) (by omega)]
  refine OJ.st q.so (j := v.toNat) (by omega) (by omega) fun h1 o1 k1 _ => ?_
  have hvl : v.toNat < sc.length := by omega
  have q1 := q.setS o1 k1 (fun x hx => by
    rcases List.mem_or_eq_of_mem_set hx with hx | rfl
    · exact q.rng x hx
    · omega) (by simp)
  have f1 : Fr Z h h1 := Fr.keep k1 q.zs
  have hsame : ∀ x, 0 ≤ x → x ≠ v → scf (sc.set v.toNat (scf sc v + by0)) x = scf sc x := by
    intro x hx hne
    rw [scf_set hvl _ _ hx, if_neg (by omega)]
  have hnew : scf (sc.set v.toNat (scf sc v + by0)) v = scf sc v + by0 := by rw [scf_set hvl _ _ hv.1, if_pos (by omega)]
  refine seq.cut (fun (_ : Unit) h' => ∃ l', QS Z h' a s t (sc.set v.toNat (scf sc v + by0)) l' ∧ Fr Z h h' ∧ l'.length = l.length ∧ (∀ x, x ∈ l' ↔ x ∈ l) ∧ Heaped (sc.set v.toNat (scf sc v + by0)) l') ?_ ?_
  · refine q1.ld1 (Index_spec q1.to.r q1.lenl fun r hr => ?_)
    rcases hr with ⟨rfl, hno⟩ | ⟨j, hj, rfl, hat⟩
    · refine ⟨fun hb => by simp at hb, fun _ => ⟨l, q1, f1, rfl, fun _ => Iff.rfl, ?_⟩⟩
      exact heaped_scf hh fun x hx => hsame x (q.mem x hx).1 (fun e => hno (e ▸ hx))
    · refine ⟨fun _ => ?_, fun hb => by simp at hb⟩
      have hR := From.raise (sc := scf sc) (sc' := fun x => if 0 ≤ x then scf (sc.set v.toNat (scf sc v + by0)) x else scf sc x) hh q.once (Nat.le_refl _) hj (fun x hx => by
        by_cases h0 : 0 ≤ x
        · simp only [h0, if_true]; exact hsame x h0 (fun e => hx (by rw [hat, e]))
        · simp only [h0, if_false]) (by rw [hat]; simp only [hv.1, if_true]; rw [hnew]; omega)
      have conv : ∀ x ∈ l, (fun x => if 0 ≤ x then scf (sc.set v.toNat (scf sc v + by0)) x else scf sc x) x = scf (sc.set v.toNat (scf sc v + by0)) x := by
        intro x hx; simp only [(q.mem x hx).1, if_true]
      have cu : ∀ i k, i < l.length → k < l.length → upto (fun x => if 0 ≤ x then scf (sc.set v.toNat (scf sc v + by0)) x else scf sc x) (at0 l i) (at0 l k) → upto (scf (sc.set v.toNat (scf sc v + by0))) (at0 l i) (at0 l k) := by
        intro i k hi hk hu
        have e1 := conv _ (at_mem hi)
        have e2 := conv _ (at_mem hk)
        simp only at e1 e2
        unfold upto aheadOf at *
        simp only [e1, e2] at hu
        exact hu
      refine Fix_spec q1 hj ⟨fun c c0 cn cp => cu _ _ (by omega) cn (hR.1.pairs c c0 cn cp), fun c c0 cn cp j0 => cu _ _ (by omega) cn (hR.1.under c c0 cn cp j0)⟩ (fun c c0 cn cp => cu _ _ hj cn (hR.2 c c0 cn cp)) fun l' h' q' f' e' m' hh' => ?_
      exact ⟨l', q', f1.trans f', e', m', hh'⟩
  · rintro _ h' ⟨l', q', f', e', m', hh'⟩
    exact K l' h' q' f' e' m' hh'

theorem take_at {l : List Int} {n k : Nat} (h : k < n) : at0 (l.take n) k = at0 l k := by
  unfold at0; rw [List.getD_eq_getElem?_getD, List.getD_eq_getElem?_getD, List.getElem?_take, if_pos h]
theorem Pop_spec {Q : Int × Bool → Heap → Prop} (q : QS Z h a s t sc l) (hh : Heaped sc l) (hne : 0 < l.length)
    (K : ∀ t' l' h', QS Z h' a s t' sc l' → Fr Z h h' → l'.length + 1 = l.length → (∀ x, x ∈ l' ↔ x ∈ l ∧ x ≠ at0 l 0) → Heaped sc l' → t'.blk = t.blk → Q (at0 l 0, true) h') : queue_Pop (some a) h Q := by
  have hll := q.lenl
  refine q.ld1 ⟨fun hb => ?_, fun _ => ?_⟩
  · simp only [beq_iff_eq] at hb
    have := q.to.r.len
    omega
  refine Len_spec q fun h1 e1 => ?_
  rw [w64 (by omega) (by omega)]
  rintro n rfl
  have en : ((l.length : Int) - 1) = ((l.length - 1 : Nat) : Int) := by omega
  have q1 := q.ext e1
  refine Swap_spec q1 (m := 0) (n := l.length - 1) rfl en (by omega) (by omega) fun h2 q2 f2 => ?_
  rw [en]
  have hs := at_swap l (i := 0) (j := l.length - 1) (by omega) (by omega)
  refine down_spec (lo := 0) (i0 := 0) (n := l.length - 1) q2 (by rw [swap_len]; omega) (Nat.zero_le _) ⟨fun c c0 cn cl cp => ?_, fun c c0 cn cp j0 => absurd j0 (by omega)⟩ (Nat.le_refl _) fun b l2 h3 q3 f3 e3 m3 r3 hf => ?_
  · rw [hs, hs, if_neg (by omega), if_neg (by omega), if_neg (by omega), if_neg (by omega)]
    exact hh c c0 (by omega) cl
  rw [swap_len] at e3
  refine mem_ext fun h4 e4 => ?_
  have q4 := q3.ext e4
  refine q4.ld1 ?_
  rw [q4.to.r.len, e3, en, w64 (by omega) (by omega)]
  rintro last rfl
  refine q4.ld1 (RJ.ld q4.to.r (j := l.length - 1) rfl (by omega) (q4.ld1 (OJ.take q4.to (j := l.length - 1) rfl (by omega) fun t' ho hb => ?_)))
  have hlast : at0 l2 (l.length - 1) = at0 l 0 := by
    rw [r3 _ (Nat.le_refl _), hs]
    by_cases e : l.length - 1 = 0
    · rw [if_pos e, e]
    · rw [if_neg e, if_pos rfl]
  refine ⟨a, rfl, ⟨_, q4.c1⟩, q4.f1, ?_⟩
  rw [hlast]
  have ha0 : a.add 0 ≠ a.add 1 := by
    rw [addr_add _ _ q.spot, addr_add _ _ q.spot]
    intro e; injection e; omega
  have kset : Keep (some a.block) h4 (setCell h4 (a.add 1) (Sl.toV t')) := by
    have := Keep.setCell h4 (a.add 1) (Sl.toV t')
    rwa [addr_add_block] at this
  have mem2 : ∀ x, x ∈ l2.take (l.length - 1) ↔ x ∈ l ∧ x ≠ at0 l 0 := by
    intro x
    constructor
    · intro hx
      obtain ⟨k, hk, e⟩ := mem_at hx
      rw [List.length_take] at hk
      rw [take_at (by omega)] at e
      refine ⟨(swap_mem (by omega) (by omega) x).1 ((m3 x).1 (e ▸ at_mem (by omega))), fun e2 => ?_⟩
      have := q4.once k (l.length - 1) (by omega) (by omega) (by rw [e, e2, hlast])
      omega
    · rintro ⟨hx, hxne⟩
      have hx2 := (m3 x).2 ((swap_mem (i := 0) (j := l.length - 1) (by omega) (by omega) x).2 hx)
      obtain ⟨k, hk, e⟩ := mem_at hx2
      have : k ≠ l.length - 1 := fun e2 => hxne (by rw [← e, e2, hlast])
      have hk2 : k < (l2.take (l.length - 1)).length := by rw [List.length_take]; omega
      have := at_mem hk2
      rw [take_at (by omega), e] at this
      exact this
  refine K t' (l2.take (l.length - 1)) _ ?_ (((Fr.ext e1).trans f2).trans ((f3.trans (Fr.ext e4)).trans (Fr.keep kset (fun i hi => by cases hi; exact q.za)))) (by rw [List.length_take]; omega) mem2 ?_ hb
  · exact
    { q4 with
      c0 := by
        rw [cell_set_ne (.inr (.inl (by rw [addr_add _ _ q.spot, addr_add _ _ q.spot]; simp)))]
        exact q4.c0
      c1 := cell_set_same q4.c1
      f1 := by rw [frozen_set]; exact q4.f1
      so := q4.so.keep kset (fun b hb e => q4.d1 (by rw [hb, e]))
      to := ho.keep kset (fun b hb' e => q4.d2 (by rw [← hb, hb', e]))
      d2 := by rw [hb]; exact q4.d2
      d3 := fun b hb' => by rw [hb]; exact q4.d3 b hb'
      zt := fun b hb' => q4.zt b (by rw [← hb]; exact hb')
      zn := fun b hb' => q4.zn b (Nat.le_trans kset.size hb')
      mem := fun v hv => q4.mem v (List.mem_of_mem_take hv)
      once := fun i j hi hj e => by
        rw [List.length_take] at hi hj
        rw [take_at (by omega), take_at (by omega)] at e
        exact q4.once i j (by omega) (by omega) e
      lenl := by rw [List.length_take]; have := q4.lenl; omega }
  · intro c c0 cn cl
    rw [List.length_take] at cn
    rw [take_at (by omega), take_at (by omega)]
    exact hf c c0 (by omega) cl
end Go.Sh

namespace Go.Sh
open Go Go.Lift Go.Que
variable {Z : Nat → Prop} {h h' : Heap} {a : Addr} {s t : Sl} {sc l : List Int}

theorem one_i64 : ∀ x : Int, one (Value.int .i64 x) = true := fun _ => rfl
/-- So many, from nought on. -/
def upN (n : Nat) : List Int := (List.range n).map (fun k : Nat => (k : Int))
theorem upN_len (n : Nat) : (upN n).length = n := by simp [upN]
theorem upN_at {n k : Nat} (h : k < n) : at0 (upN n) k = (k : Int) := by
  rw [at_get (by rw [upN_len]; exact h)]; simp [upN]
theorem upN_mem {n : Nat} {x : Int} : x ∈ upN n ↔ 0 ≤ x ∧ x < (n : Int) := by
  simp only [upN, List.mem_map, List.mem_range]
  constructor
  · rintro ⟨k, hk, rfl⟩; omega
  · rintro ⟨h1, h2⟩; exact ⟨x.toNat, by omega, by omega⟩
theorem upN_succ (n : Nat) : upN (n + 1) = upN n ++ [(n : Int)] := by simp [upN, List.range_succ]
theorem keepOwn {α : Type} {toV : α → Value} {h h1 h2 : Heap} {B : Nat} {s : Sl} {xs : List α} (e : Ext h h1) (ho : Own toV B h1 s xs) (hB : h.size ≤ B) (k : Keep s.blk h1 h2) : Ext h h2 :=
  ⟨Nat.le_trans e.size k.size, fun b hb hne => (k.same b (Nat.lt_of_lt_of_le hb e.size) (fun e' => by have := (ho.lt e'.symm).1; omega)).trans (e.same b hb hne)⟩

theorem New_spec {n : Int} {N : Nat} {Q : Sl × Sl → Heap → Prop} (hN : (N : Int) = max (min n 1048576) 0)
    (K : ∀ s t h', OJ h' s (List.replicate N 0) → OJ h' t (upN N) → Ext h h' → (∀ b, s.blk = some b → h.size ≤ b ∧ b < h'.size) → (∀ b, t.blk = some b → h.size ≤ b ∧ b < h'.size) → (∀ b, s.blk = some b → t.blk ≠ some b) → Q (s, t) h') : queue_New n h Q := by
  refine mem_ext fun h0 e0 => ?_
  rintro n1 hn1
  have hn : n1 = (N : Int) := by
    rw [hn1, hN]
    by_cases h1 : 1048576 < n
    · rw [if_pos h1, if_neg (by decide)]; omega
    · rw [if_neg h1]
      by_cases h2 : 0 > n
      · rw [if_pos h2]; omega
      · rw [if_neg h2]; omega
  subst hn
  have hle : N ≤ 1048576 := by omega
  refine ⟨⟨by omega, by omega, by omega⟩, fun T => ?_⟩
  simp only [Int.toNat_natCast]
  have hs : OJ (h0.push (.cells (List.flatten (List.replicate N [Value.int .i64 0])).toArray T (0, 0))) ⟨some ⟨h0.size, 0, none⟩, N, N⟩ (List.replicate N 0) := by
    have := Own.new (toV := Value.int .i64) (h := h0) (ys := List.replicate N (0 : Int)) (T := T) rfl
    simp only [List.map_replicate, List.length_replicate] at this
    have e : List.flatten (List.replicate N [Value.int .i64 0]) = List.replicate N (Value.int .i64 0) := by simp
    rw [e]
    exact this.mono (Nat.zero_le _)
  generalize hh1 : (h0.push (.cells (List.flatten (List.replicate N [Value.int .i64 0])).toArray T (0, 0)) : Heap) = h1 at hs
  have e1 : Ext h0 h1 := by rw [← hh1]; exact Ext.push _ _
  have sz1 : h1.size = h0.size + 1 := by rw [← hh1]; simp
  generalize hss : (⟨some ⟨h0.size, 0, none⟩, N, N⟩ : Sl) = s at hs
  have hsb : s.blk = some h0.size := by rw [← hss]; rfl
  refine mem_ext fun h2 e2 => ?_
  refine loop.inv (fun (s0 : Int × Sl × Sl) h3 => ∃ (i : Nat) (t : Sl), s0 = ((i : Int), s, t) ∧ i ≤ N ∧ Own (Value.int .i64) h2.size h3 t (upN i) ∧ Ext h2 h3) (fun s0 _ => N - s0.1.toNat) ⟨0, Sl.nil, by simp, Nat.zero_le _, Own.nil, Keep.refl _ _⟩ ?_
  rintro s0 h3 ⟨i, t, rfl, hi, ho, e3⟩
  dsimp only
  refine ⟨fun hlt => ?_, fun hge => ?_⟩
  · simp only [decide_eq_true_eq] at hlt
    intro T'
    have hx := (Own.new (toV := Value.int .i64) (h := h3) (ys := [(i : Int)]) (T := T') (cs := [Value.int .i64 i]) rfl).r
    have ho' := ho.ext (Ext.push h3 (.cells [Value.int .i64 (i : Int)].toArray T' (0, 0)))
    refine Own.append ho' (by have := e3.size; simp; omega) hx one_i64 (by rw [upN_len]; simp; omega) fun t' h4 o4 k4 _ => ?_
    rw [w64 (by omega) (by omega)]
    refine ⟨⟨i + 1, t', by simp, by omega, by rw [upN_succ]; exact o4, ?_⟩, by simp only [Int.toNat_natCast]; omega⟩
    exact keepOwn (e3.trans (Ext.push _ _)) ho' (Nat.le_refl _) k4
  · simp only [decide_eq_false_iff_not] at hge
    have : i = N := by omega
    subst this
    have sz := e2.size
    refine K s t h3 (hs.ext (e2.trans e3)) (ho.mono (Nat.zero_le _)) (((e0.trans e1).trans e2).trans e3) (fun b hb => ?_) (fun b hb => ?_) (fun b hb hb' => ?_)
    · rw [hsb] at hb; cases hb
      have := e0.size; have := e3.size; omega
    · have := ho.lt hb; have := e0.size; omega
    · rw [hsb] at hb; cases hb
      have := ho.lt hb'; omega

/-- A queue is laid. -/
theorem lay_spec {Q : Addr → Heap → Prop} (h0 : Heap) (so : OJ h s sc) (to : OJ h t l) (e : Ext h0 h) (bs : ∀ b, s.blk = some b → h0.size ≤ b ∧ b < h.size) (bt : ∀ b, t.blk = some b → h0.size ≤ b ∧ b < h.size) (d3 : ∀ b, s.blk = some b → t.blk ≠ some b)
    (rng : ∀ x ∈ sc, 0 ≤ x ∧ x ≤ 1152921504606846976) (mem : ∀ v ∈ l, 0 ≤ v ∧ v < (sc.length : Int)) (once : Once l) (lens : sc.length ≤ 1048576) (lenl : l.length ≤ 1048576)
    (K : ∀ a h', QS (fun b => h0.size ≤ b) h' a s t sc l → Ext h0 h' → a.block = h.size → Ext h h' → Q a h') : new [Sl.toV Sl.nil, Sl.toV Sl.nil] h fun q h1 => storeS q [Sl.toV s, Sl.toV t] h1 fun h2 => Q q h2 := by
  intro T
  have hb : (h.push (.cells [Sl.toV Sl.nil, Sl.toV Sl.nil].toArray T (0, 0)))[h.size]? = some (.cells [Sl.toV Sl.nil, Sl.toV Sl.nil].toArray T (0, 0)) := by simp
  obtain ⟨c', h1, h2, h3, h4, h5⟩ := setCells_block [Sl.toV s, Sl.toV t] 0 0 _ _ hb (by simp)
  refine ⟨h5, ?_⟩
  generalize hg : setCells (h.push (.cells [Sl.toV Sl.nil, Sl.toV Sl.nil].toArray T (0, 0))) ⟨h.size, 0, none⟩ [Sl.toV s, Sl.toV t] 0 = hh at h1
  have k : Keep (some h.size) (h.push (.cells [Sl.toV Sl.nil, Sl.toV Sl.nil].toArray T (0, 0))) hh := by rw [← hg]; exact setCells_keep ⟨h.size, 0, none⟩ _ _ _
  have eh : Ext h hh := (Keep.refl none h).trans ⟨Nat.le_trans (Ext.push h _).size k.size, fun b hb hne => (k.same b (by simp; omega) (by simp; omega)).trans ((Ext.push h _).same b hb hne)⟩
  have c0 := h4 0 (by simp)
  have c1 := h4 1 (by simp)
  simp only [Nat.zero_add, List.getElem_cons_zero, List.getElem_cons_succ] at c0 c1
  refine K _ _ ?_ (e.trans eh) rfl eh
  have szh := e.size
  refine ⟨rfl, ?_, ?_, ?_, so.ext eh, to.ext eh, fun hb => ?_, fun hb => ?_, d3, szh, fun b hb => (bs b hb).1, fun b hb => (bt b hb).1, fun b hb => Nat.le_trans (e.trans eh).size hb, rng, mem, once, lens, lenl⟩
  · rw [addr_add _ _ rfl]; unfold cell?; simp [h1, c0]
  · rw [addr_add _ _ rfl]; unfold cell?; simp [h1, c1]
  · rw [addr_add _ _ rfl]; exact frozen_none h1
  · have := (bs _ hb).2; simp at this
  · have := (bt _ hb).2; simp at this

theorem once_upN (n : Nat) : Once (upN n) := by
  intro i j hi hj e
  rw [upN_len] at hi hj
  rw [upN_at hi, upN_at hj] at e
  omega
theorem at_rep {n k : Nat} : at0 (List.replicate n 0) k = 0 := by
  unfold at0; rw [List.getD_eq_getElem?_getD, List.getElem?_replicate]; split <;> rfl
theorem heaped_upN (n : Nat) : Heaped (List.replicate n 0) (upN n) := by
  intro c c0 cn _
  rw [upN_len] at cn
  rw [upN_at cn, upN_at (by omega)]
  unfold upto aheadOf scf
  rw [at_rep, at_rep]
  omega
theorem Pop_empty {Q : Int × Bool → Heap → Prop} (q : QS Z h a s t sc l) (he : l.length = 0) (K : Q (0, false) h) : queue_Pop (some a) h Q := by
  refine q.ld1 ⟨fun _ => K, fun hb => ?_⟩
  simp only [beq_eq_false_iff_ne, ne_eq] at hb
  exact absurd (by rw [q.to.r.len, he]; rfl) hb
theorem Has_spec {x : Sl × Sl} {v : Int} {Q : Bool → Heap → Prop} (hr : RJ h x.2 l) (hl : l.length ≤ 1048576) (K : ∀ b h', (b = true ↔ v ∈ l) → Ext h h' → Q b h') : queue_Has x v h Q := by
  refine mem_ext fun h0 e0 => ?_
  refine Index_spec (hr.ext e0) hl fun r hr' => K _ h0 ?_ e0
  rw [decide_eq_true_eq]
  rcases hr' with ⟨rfl, hno⟩ | ⟨j, hj, rfl, hat⟩
  · exact ⟨fun h => absurd h (by decide), fun h => absurd h hno⟩
  · exact ⟨fun _ => hat ▸ at_mem hj, fun _ => by omega⟩
theorem QS.ldS (q : QS Z h a s t sc l) {k : Sl × Sl → Prop} (K : k (s, t)) : loadS C_sl_sl 2 a h k := by
  refine ⟨(s, t), ?_, K⟩
  have c0 := q.c0
  have c1 := q.c1
  simp only [cells?, Nat.zero_add, c0, c1, C_sl_sl]
theorem frExt {h0 : Heap} (f : Fr (fun b => h0.size ≤ b) h0 h) : Ext h0 h := ⟨f.size, fun b hb _ => f.same b hb (by omega)⟩

theorem speaks17uspec {Q : Bool → Heap → Prop} (K : ∀ h', Ext h h' → Q true h') : law17uspeaks h Q := by
  refine New_spec (N := 3) (by decide) fun s t h1 so to e1 bs bt d3 => ?_
  refine lay_spec h so to e1 bs bt d3 (fun x hx => by rw [List.eq_of_mem_replicate hx]; decide) (fun v hv => by have := upN_mem.1 hv; simpa using this) (once_upN 3) (by simp) (by rw [upN_len]; decide) fun a h2 q e2 _ _ => ?_
  have be : bumpE (List.replicate 3 0) 2 1 = 0 := by decide
  refine Bump_spec q (heaped_upN 3) (fun hb => absurd be hb) fun _ l' h3 q3 f3 e3 m3 hh3 => ?_
  have hl3 : 0 < l'.length := by rw [e3, upN_len]; decide
  have h2m : (2 : Int) ∈ l' := (m3 2).2 (upN_mem.2 (by decide))
  obtain ⟨k, hk, hk2⟩ := mem_at h2m
  have hfirst := From.first hh3 k hk
  have h0m := upN_mem.1 ((m3 _).1 (at_mem hl3))
  have hv : at0 l' 0 = 2 := by
    rw [hk2] at hfirst
    have hcase : at0 l' 0 = 0 ∨ at0 l' 0 = 1 ∨ at0 l' 0 = 2 := by omega
    rcases hcase with h | h | h
    · rw [h] at hfirst; exact absurd hfirst (by unfold upto aheadOf; decide)
    · rw [h] at hfirst; exact absurd hfirst (by unfold upto aheadOf; decide)
    · exact h
  refine Pop_spec q3 hh3 hl3 fun t' l4 h4 q4 f4 e4 m4 hh4 _ => ?_
  rw [hv]
  have ef : Ext h h4 := ⟨Nat.le_trans e2.size (Nat.le_trans f3.size f4.size), fun b hb _ => (f4.same b (Nat.lt_of_lt_of_le hb (Nat.le_trans e2.size f3.size)) (Nat.not_le.2 hb)).trans ((f3.same b (Nat.lt_of_lt_of_le hb e2.size) (Nat.not_le.2 hb)).trans (e2.same b hb (by simp)))⟩
  refine seq.cut (fun (t0 : Bool) h5 => t0 = true ∧ Ext h4 h5) ?_ ?_
  · refine ⟨fun _ => ⟨fun _ => ⟨fun _ => q4.ldS (Has_spec q4.to.r q4.lenl fun b h5 hb e5 => ⟨fun hnb => (q4.ext e5).ldS (Has_spec (q4.ext e5).to.r q4.lenl fun b2 h6 hb2 e6 => ⟨?_, e5.trans e6⟩), fun hnb => ?_⟩), fun h => by simp at h⟩, fun h => by simp at h⟩, fun h => by simp at h⟩
    · rw [hb2, m4, hv]
      exact ⟨(m3 0).2 (upN_mem.2 (by decide)), by decide⟩
    · have : b = true := by simpa using hnb
      have := (m4 2).1 (hb.1 this)
      exact absurd hv.symm this.2
  · rintro t0 h5 ⟨rfl, e5⟩
    exact K h5 (ef.trans e5)

/-- What is looked at of a score. -/
def msk (v : Int) : Int := IntKind.wrap .i64 (((BitVec.ofInt (IntKind.bits .i64) v &&& BitVec.ofInt (IntKind.bits .i64) 255).toNat : Int))
theorem msk_rng (v : Int) : 0 ≤ msk v ∧ msk v ≤ 255 := by
  unfold msk
  have h1 : (BitVec.ofInt (IntKind.bits .i64) v &&& BitVec.ofInt (IntKind.bits .i64) 255).toNat ≤ 255 := by
    rw [BitVec.toNat_and]
    exact Nat.and_le_right
  rw [w64 (by omega) (by omega)]
  omega

theorem QueueSorts_holds {scores : Sl} {xs : List Int} {Q : Bool → Heap → Prop} (hx : RJ h scores xs) (K : ∀ h', Ext h h' → Q true h') : law17uQueueSorts scores h Q := by
  refine speaks17uspec fun h0 e0 => ⟨fun hb => by simp at hb, fun _ => ⟨fun _ => K h0 e0, fun hle => ?_⟩⟩
  have hx := hx.ext e0
  have hlen := hx.len
  simp only [decide_eq_false_iff_not] at hle
  rw [hlen] at hle ⊢
  generalize hn : xs.length = n at *
  have hn60 : n ≤ 60 := by omega
  refine New_spec (N := n) (by omega) fun s t h1 so to e1 bs bt d3 => ?_
  refine lay_spec h0 so to e1 bs bt d3 (fun x hx => by rw [List.eq_of_mem_replicate hx]; decide) (fun v hv => by have := upN_mem.1 hv; simpa using this) (once_upN n) (by simp; omega) (by rw [upN_len]; omega) fun a h2 q e2 _ _ => ?_
  refine loop.inv (fun (s0 : Int) h3 => ∃ (i : Nat) (sc l : List Int), s0 = (i : Int) ∧ i ≤ n ∧ QS (fun b => h0.size ≤ b) h3 a s t sc l ∧ Heaped sc l ∧ sc.length = n ∧ l.length = n ∧ (∀ k, k < i → at0 sc k = msk (at0 xs k)) ∧ (∀ k, i ≤ k → at0 sc k = 0) ∧ Ext h0 h3) (fun s0 _ => n - s0.toNat)
    ⟨0, _, _, rfl, Nat.zero_le _, q, heaped_upN n, by simp, upN_len n, fun k hk => absurd hk (by omega), fun k _ => at_rep, e2⟩ ?_
  rintro s0 h3 ⟨i, sc, l, rfl, hi, q3, hh3, hsc, hl, lo, hi0, e3⟩
  dsimp only
  refine ⟨fun hlt => ?_, fun hge => ?_⟩
  · simp only [decide_eq_true_eq] at hlt
    have hin : i < n := by omega
    refine RJ.ld (hx.ext e3) (j := i) rfl (by omega) ?_
    have hm := msk_rng (at0 xs i)
    have hat : scf sc (i : Int) = 0 := by unfold scf; rw [Int.toNat_natCast]; exact hi0 i (Nat.le_refl _)
    have be : bumpE sc (i : Int) (msk (at0 xs i)) = 0 := by
      unfold bumpE
      rw [if_pos (by omega), if_neg (by omega), hat, if_neg (by omega)]
    show queue_Bump (some a) (i : Int) (msk (at0 xs i)) h3 _
    refine Bump_spec q3 hh3 (fun hb => absurd be hb) fun _ l' h4 q4 f4 e4 m4 hh4 => ⟨fun hb => by simp at hb, fun _ => ?_⟩
    rw [hat, Int.toNat_natCast, Int.zero_add] at q4 hh4
    rw [w64 (by omega) (by omega)]
    refine ⟨⟨i + 1, _, l', by omega, by omega, q4, hh4, by simpa using hsc, by omega, fun k hk => ?_, fun k hk => ?_, ?_⟩, by simp only [Int.toNat_natCast]; omega⟩
    · rw [at_set _ _ _ _ (by omega)]
      by_cases e : k = i
      · rw [if_pos e, e]
      · rw [if_neg e]; exact lo k (by omega)
    · rw [at_set _ _ _ _ (by omega), if_neg (by omega)]; exact hi0 k (by omega)
    · exact ⟨Nat.le_trans e3.size f4.size, fun b hb _ => (f4.same b (Nat.lt_of_lt_of_le hb e3.size) (Nat.not_le.2 hb)).trans (e3.same b hb (by simp))⟩
  · simp only [decide_eq_false_iff_not] at hge
    have hin : i = n := by omega
    subst hin
    refine loop.inv (fun (s1 : Int × Int) h4 => ∃ (c : Nat) (t : Sl) (l : List Int), s1.2 = (c : Int) ∧ c ≤ i ∧ QS (fun b => h0.size ≤ b) h4 a s t sc l ∧ Heaped sc l ∧ l.length + c = i ∧ (s1.1 = -1 ∨ (0 ≤ s1.1 ∧ s1.1 < (i : Int)) ∧ s1.1 ∉ l ∧ ∀ x ∈ l, upto (scf sc) s1.1 x) ∧ Ext h0 h4) (fun s1 _ => i - s1.2.toNat)
      ⟨0, t, l, rfl, Nat.zero_le _, q3, hh3, by omega, .inl rfl, e3⟩ ?_
    rintro ⟨last, c⟩ h4 ⟨c, t, l, rfl, hc, q4, hh4, hlc, hlast, e4⟩
    dsimp only at hlast ⊢
    refine ⟨fun hlt => ?_, fun hge => ?_⟩
    · simp only [decide_eq_true_eq] at hlt
      have hl0 : 0 < l.length := by omega
      refine Pop_spec q4 hh4 hl0 fun t' l' h5 q5 f5 e5 m5 hh5 _ => ?_
      have e5' : Ext h0 h5 := ⟨Nat.le_trans e4.size f5.size, fun b hb _ => (f5.same b (Nat.lt_of_lt_of_le hb e4.size) (Nat.not_le.2 hb)).trans (e4.same b hb (by simp))⟩
      have hv := q4.mem _ (at_mem hl0)
      have hmem := at_mem hl0
      have hfirst : ∀ x ∈ l, upto (scf sc) (at0 l 0) x := by
        intro x hx
        obtain ⟨k, hk, rfl⟩ := mem_at hx
        exact From.first hh4 k hk
      generalize at0 l 0 = v at *
      refine seq.cut (fun (t0 : Bool) h6 => t0 = false ∧ h6 = h5) ?_ ?_
      · refine ⟨fun hb => by simp at hb, fun _ => ⟨fun hb => absurd hb (by simp; omega), fun _ => ⟨fun hb => absurd hb (by simp; omega), fun _ => ⟨fun hl => ?_, fun _ => ⟨rfl, rfl⟩⟩⟩⟩⟩
        simp only [ge_iff_le, decide_eq_true_eq] at hl
        rcases hlast with h1 | ⟨⟨g1, g2⟩, g3, g4⟩
        · omega
        have hx5 := hx.ext e5'
        have hu := g4 v hmem
        have s1 : scf sc v = msk (at0 xs v.toNat) := by unfold scf; exact lo _ (by omega)
        have s2 : scf sc last = msk (at0 xs last.toNat) := by unfold scf; exact lo _ (by omega)
        refine RJ.ld hx5 (j := v.toNat) (by omega) (by omega) (RJ.ld hx5 (j := last.toNat) (by omega) (by omega) ?_)
        refine ⟨fun hgt => ?_, fun _ => ?_⟩
        · have hgt : msk (at0 xs v.toNat) > msk (at0 xs last.toNat) := by simpa [msk] using hgt
          rw [← s1, ← s2] at hgt
          exact absurd (.inl hgt) hu
        · refine RJ.ld hx5 (j := v.toNat) (by omega) (by omega) (RJ.ld hx5 (j := last.toNat) (by omega) (by omega) ⟨fun heq => ?_, fun _ => ⟨rfl, rfl⟩⟩)
          have heq : msk (at0 xs v.toNat) = msk (at0 xs last.toNat) := by simpa [msk] using heq
          rw [← s1, ← s2] at heq
          refine ⟨?_, rfl⟩
          have hne : v ≠ last := fun e => g3 (e ▸ hmem)
          have : ¬ v < last := fun hvl => hu (.inr ⟨heq, hvl⟩)
          simp only [decide_eq_false_iff_not]
          omega
      · rintro t0 h6 ⟨rfl, rfl⟩
        refine ⟨fun hb => by simp at hb, fun _ => ?_⟩
        rw [w64 (by omega) (by omega)]
        refine ⟨⟨c + 1, t', l', by simp, by omega, q5, hh5, by omega, .inr ⟨by omega, fun hm => ((m5 v).1 hm).2 rfl, fun x hx => hfirst x ((m5 x).1 hx).1⟩, e5'⟩, by simp only [Int.toNat_natCast]; omega⟩
    · simp only [decide_eq_false_iff_not] at hge
      have hl0 : l.length = 0 := by omega
      refine Pop_empty q4 hl0 ?_
      refine seq.cut (fun (t0 : Bool) h6 => t0 = true ∧ h6 = h4) ?_ ?_
      · refine ⟨fun _ => ⟨t, q4.c1, ?_, rfl⟩, fun hb => by simp at hb⟩
        rw [q4.to.r.len, hl0]; rfl
      · rintro t0 h6 ⟨rfl, rfl⟩
        exact K h6 (e0.trans e4)
end Go.Sh

/-
  Laws that the proof of this claim's statement leans on, each proved under the conditions that it states.
-/
import Derived.Test.YtkjcocjkcjmafaaFwC
import Derived.Test.YtkjcocjkcjmafaaFwD
import Derived.Test.YtkjcocjkcjmafaaSh
set_option linter.unusedVariables false
set_option linter.unusedSimpArgs false
namespace Go.Sh
open Go Go.Lift
theorem mem_ext {h : Heap} {k : Heap → Prop} (K : ∀ h', Ext h h' → k h') : mem h k := fun h' e => K h' ⟨e.size, fun b hb _ => e.same b hb⟩
def at0 (l : List Int) (i : Nat) : Int := l.getD i 0
abbrev RJ (h : Heap) (s : Sl) (xs : List Int) : Prop := R (Value.int .i64) h s xs
theorem at_get {xs : List Int} {j : Nat} (hj : j < xs.length) : at0 xs j = xs[j] := by
  unfold at0; rw [List.getD_eq_getElem?_getD, List.getElem?_eq_getElem hj]; rfl
theorem RJ.ld {h : Heap} {s : Sl} {xs : List Int} (hr : RJ h s xs) {i : Int} {j : Nat} {k : Int → Prop} (hij : i = (j : Int)) (hj : j < xs.length) (K : k (at0 xs j)) : idxS s i 1 fun a => Lift.load (Value.int .i64) a h k := by
  subst hij
  refine R.load hr (by omega) (by omega) ?_
  rw [at_get hj] at K
  exact K
abbrev One := { v : Value // one v = true }
def Sl.sc (sz : Nat) (s : Sl) : Sl := ⟨s.a, s.len * sz, s.cap * sz⟩
theorem Sl.sc_one {s : Sl} : Sl.sc 1 s = s := by cases s; simp [Sl.sc]
theorem Sl.sc_nil {sz : Nat} : Sl.sc sz Sl.nil = Sl.nil := by simp [Sl.sc, Sl.nil]
theorem appendS_sc {sz bytes : Nat} (hsz : 0 < sz) {s x : Sl} {h : Heap} {k : Sl → Heap → Prop} (hb : (s.len + x.len) * bytes ≤ 2 ^ 46)
    (H : appendS 1 0 (Sl.sc sz s) (Sl.sc sz x) h fun s' h' => ∀ s'', Sl.sc sz s'' = s' → k s'' h') : appendS sz bytes s x h k := by
  obtain ⟨vs, h1, h2, _, h4, h5⟩ := H
  simp only [Sl.sc, Nat.mul_one] at h1 h4 h5
  refine ⟨vs, h1, h2, hb, fun hf => ?_, fun hg => ?_⟩
  · have h6 := h4 (by rw [← Nat.add_mul]; exact Nat.mul_le_mul_right _ hf)
    cases ha : s.a with
    | none =>
      rw [ha] at h6
      exact h6 _ (by simp [Sl.sc, Nat.add_mul])
    | some a =>
      rw [ha] at h6
      exact ⟨h6.1, h6.2 _ (by simp [Sl.sc, Nat.add_mul])⟩
  · obtain ⟨old, h6, h7⟩ := h5 (by rw [← Nat.add_mul]; exact Nat.mul_lt_mul_of_pos_right hg hsz)
    refine ⟨old, h6, fun cap T rest hc hr => ?_⟩
    exact h7 (cap * sz) T rest (by rw [← Nat.add_mul]; exact Nat.mul_le_mul_right _ hc) (by rw [hr, Nat.sub_mul, Nat.add_mul]) _ (by simp [Sl.sc, Nat.add_mul])
theorem R.same {α β : Type} {toV : α → Value} {toU : β → Value} {h : Heap} {s : Sl} {xs : List α} {ys : List β} (hr : R toV h s xs) (e : xs.map toV = ys.map toU) : R toU h s ys := by
  have hl : xs.length = ys.length := by have := congrArg List.length e; simpa using this
  exact ⟨by rw [hr.len, hl], hr.cap, by rw [← e]; exact hr.cells⟩
theorem Own.same {α β : Type} {toV : α → Value} {toU : β → Value} {B : Nat} {h : Heap} {s : Sl} {xs : List α} {ys : List β} (ho : Own toV B h s xs) (e : xs.map toV = ys.map toU) : Own toU B h s ys := ⟨R.same ho.r e, ho.own⟩
def OwnV (h : Heap) (s : Sl) (l : List Value) : Prop := ∃ ys : List One, l = ys.map Subtype.val ∧ Own (Subtype.val : One → Value) 0 h s ys
theorem ones_of {l : List Value} (h : oneCells l = true) : ∃ ys : List One, l = ys.map Subtype.val := by
  induction l with
  | nil => exact ⟨[], rfl⟩
  | cons v l ih =>
    simp only [oneCells, List.all_cons, Bool.and_eq_true] at h
    obtain ⟨ys, rfl⟩ := ih h.2
    exact ⟨⟨v, h.1⟩ :: ys, rfl⟩
theorem OwnV.of {α : Type} {toV : α → Value} {B : Nat} {h : Heap} {s : Sl} {xs : List α} (hone : ∀ x, one (toV x) = true) (ho : Own toV B h s xs) : OwnV h s (xs.map toV) := by
  obtain ⟨ys, e⟩ := ones_of (one_of hone xs)
  exact ⟨ys, e, Own.same (ho.mono (Nat.zero_le _)) e⟩
theorem OwnV.to {α : Type} {toV : α → Value} {h : Heap} {s : Sl} {xs : List α} (ho : OwnV h s (xs.map toV)) : Own toV 0 h s xs := by
  obtain ⟨ys, e, o⟩ := ho
  exact Own.same o e.symm
theorem OwnV.nil {h : Heap} : OwnV h Sl.nil [] := ⟨[], rfl, Own.nil⟩
variable {h h' : Heap} {s : Sl} {l : List Value}
theorem OwnV.keep {o : Option Nat} (ho : OwnV h s l) (k : Keep o h h') (hne : ∀ b, s.blk = some b → some b ≠ o) : OwnV h' s l := by
  obtain ⟨ys, e, p⟩ := ho
  exact ⟨ys, e, p.keep k hne⟩
theorem OwnV.lt (ho : OwnV h s l) {b : Nat} (hb : s.blk = some b) : b < h.size := by
  obtain ⟨ys, e, p⟩ := ho
  exact (p.lt hb).2
theorem OwnV.len (ho : OwnV h s l) : s.len = l.length := by
  obtain ⟨ys, e, p⟩ := ho
  rw [p.r.len, e, List.length_map]
theorem OwnV.get (ho : OwnV h s l) {j : Nat} (hj : j < l.length) : ∃ b, s.a = some ⟨b, 0, none⟩ ∧ cell? h ((⟨b, 0, none⟩ : Addr).add j) = some l[j] := by
  obtain ⟨ys, e, p⟩ := ho
  subst e
  obtain ⟨a, ha, hc⟩ := p.r.get (i := j) (by simpa using hj)
  rcases p.own with ⟨h1, _⟩ | ⟨b, c, T, h1, _⟩
  · rw [h1] at ha; cases ha
  · rw [h1] at ha; cases ha
    exact ⟨b, h1, by simpa using hc⟩
theorem OwnV.st {j : Nat} {v : Value} {k : Heap → Prop} (ho : OwnV h s l) (hj : j < l.length) {a : Addr} (ha : s.a = some a) (hv : one v = true)
    (K : ∀ h', OwnV h' s (l.set j v) → Keep s.blk h h' → h'.size = h.size → k h') : Lift.store (a.add j) v h k := by
  obtain ⟨ys, e, p⟩ := ho
  subst e
  refine p.store (i := j) (by simpa using hj) ha (⟨v, hv⟩ : One) fun h' o k' hs => K h' ⟨_, by rw [List.map_set], o⟩ k' hs
theorem OwnV.append {bytes : Nat} {ys : List Value} {x : Sl} {k : Sl → Heap → Prop} (ho : OwnV h s l) (hx : ∃ zs : List One, ys = zs.map Subtype.val ∧ R (Subtype.val : One → Value) h x zs) (hb : (l.length + ys.length) * bytes ≤ 2 ^ 46)
    (K : ∀ s' h', OwnV h' s' (l ++ ys) → Keep s.blk h h' → (∀ b, s'.blk = some b → s.blk = some b ∨ h.size ≤ b) → k s' h') : appendS 1 bytes s x h k := by
  obtain ⟨us, e, p⟩ := ho
  obtain ⟨zs, e2, r⟩ := hx
  subst e e2
  refine Own.append p (Nat.zero_le _) r (fun x => x.2) (by simpa using hb) fun s' h' o k' hblk => K s' h' ⟨us ++ zs, by simp, o⟩ k' fun b hb' => ?_
  rcases hblk with g | ⟨g, _⟩
  · exact .inl (by rw [← g]; exact hb')
  · rw [g] at hb'; injection hb' with hb'; exact .inr (by omega)
variable {ι : Type}
open Classical in
noncomputable def upd {β : Type} (x : ι → β) (i : ι) (s : β) : ι → β := fun j => if j = i then s else x j
theorem upd_at {β : Type} {x : ι → β} {i : ι} {s : β} : upd x i s i = s := by unfold upd; rw [if_pos rfl]
theorem upd_ne {β : Type} {x : ι → β} {i j : ι} {s : β} (hj : j ≠ i) : upd x i s j = x j := by unfold upd; rw [if_neg hj]
theorem upd_self {β : Type} {x : ι → β} {i : ι} : upd x i (x i) = x := by
  funext j
  by_cases e : j = i
  · subst e; rw [upd_at]
  · rw [upd_ne e]
structure NS (sc : ι → Nat) (h : Heap) (x : ι → Sl) (vs : ι → List Value) : Prop where
  own : ∀ i, OwnV h (Sl.sc (sc i) (x i)) (vs i)
  inj : ∀ i j b, (x i).blk = some b → (x j).blk = some b → i = j
variable {sc : ι → Nat} {x x' : ι → Sl} {vs : ι → List Value} {p : Addr} {n : Nat}
theorem NS.lt (q : NS sc h x vs) {i : ι} {b : Nat} (hb : (x i).blk = some b) : b < h.size := (q.own i).lt (b := b) hb
theorem NS.keep (q : NS sc h x vs) {o : Option Nat} (k : Keep o h h') (ho : ∀ i b, (x i).blk = some b → some b ≠ o) : NS sc h' x vs :=
  ⟨fun i => (q.own i).keep k (fun b hb => ho i b hb), q.inj⟩
theorem NS.ext (q : NS sc h x vs) (e : Ext h h') : NS sc h' x vs := q.keep e (fun _ _ _ => by simp)
theorem NS.put (q : NS sc h x vs) (i : ι) {s' : Sl} {l' : List Value} (k : Keep (x i).blk h h') (o : OwnV h' (Sl.sc (sc i) s') l') (hb : ∀ b, s'.blk = some b → (x i).blk = some b ∨ h.size ≤ b) : NS sc h' (upd x i s') (upd vs i l') := by
  refine ⟨fun j => ?_, fun j m b hj hm => ?_⟩
  · by_cases e : j = i
    · subst e; rw [upd_at, upd_at]; exact o
    · rw [upd_ne e, upd_ne e]
      refine (q.own j).keep k (fun b hbj e2 => e (q.inj j i b hbj e2.symm))
  · by_cases e : j = i
    · by_cases e2 : m = i
      · rw [e, e2]
      · exfalso
        subst e
        rw [upd_at] at hj; rw [upd_ne e2] at hm
        rcases hb b hj with g | g
        · exact e2 (q.inj m j b hm g)
        · have := q.lt hm; omega
    · by_cases e2 : m = i
      · exfalso
        subst e2
        rw [upd_at] at hm; rw [upd_ne e] at hj
        rcases hb b hm with g | g
        · exact e (q.inj j m b hj g)
        · have := q.lt hj; omega
      · rw [upd_ne e] at hj; rw [upd_ne e2] at hm
        exact q.inj j m b hj hm
open Classical in
theorem NS.move (q : NS sc h x vs) (i j : ι) (hs : sc i = sc j) : NS sc h (upd (upd x j (x i)) i Sl.nil) (upd (upd vs j (vs i)) i []) := by
  refine ⟨fun m => ?_, fun m m2 b hm hm2 => ?_⟩
  · by_cases e : m = i
    · subst e; rw [upd_at, upd_at, Sl.sc_nil]; exact OwnV.nil
    · rw [upd_ne e, upd_ne e]
      by_cases e2 : m = j
      · subst e2; rw [upd_at, upd_at, ← hs]; exact q.own i
      · rw [upd_ne e2, upd_ne e2]; exact q.own m
  · have key : ∀ m, upd (upd x j (x i)) i Sl.nil m = if m = i then Sl.nil else if m = j then x i else x m := fun m => rfl
    rw [key] at hm hm2
    split at hm
    · cases hm
    · split at hm2
      · cases hm2
      · split at hm
        · split at hm2
          · rename_i e1 e2; rw [e1, e2]
          · rename_i h1 h2 _ _; exact absurd (q.inj i m2 b hm hm2).symm h2
        · split at hm2
          · rename_i h1 _ _ _; exact absurd (q.inj m i b hm hm2) h1
          · exact q.inj m m2 b hm hm2
theorem NS.drop (q : NS sc h x vs) (i : ι) : NS sc h (upd x i Sl.nil) (upd vs i []) := by
  refine ⟨fun m => ?_, fun m m2 b hm hm2 => ?_⟩
  · by_cases e : m = i
    · subst e; rw [upd_at, upd_at, Sl.sc_nil]; exact OwnV.nil
    · rw [upd_ne e, upd_ne e]; exact q.own m
  · by_cases e : m = i
    · subst e; rw [upd_at] at hm; cases hm
    · by_cases e2 : m2 = i
      · subst e2; rw [upd_at] at hm2; cases hm2
      · rw [upd_ne e] at hm; rw [upd_ne e2] at hm2; exact q.inj m m2 b hm hm2
structure To (p : Addr) (n : Nat) (h : Heap) (x : ι → Sl) (h' : Heap) (x' : ι → Sl) : Prop where
  size : h.size ≤ h'.size
  same : ∀ b, b < h.size → b ≠ p.block → (∀ i, (x i).blk ≠ some b) → h'[b]? = h[b]?
  foot : ∀ i b, (x' i).blk = some b → (∃ j, (x j).blk = some b) ∨ h.size ≤ b
  root : ∀ a : Addr, a.block = p.block → (a.off < p.off ∨ p.off + n ≤ a.off) → cell? h' a = cell? h a ∧ frozen? h' a = frozen? h a
def Out (p : Addr) (x : ι → Sl) (b : Nat) : Prop := b ≠ p.block ∧ ∀ i, (x i).blk ≠ some b
theorem To.refl : To p n h x h x := ⟨Nat.le_refl _, fun _ _ _ _ => rfl, fun i b hb => .inl ⟨i, hb⟩, fun _ _ _ => ⟨rfl, rfl⟩⟩
theorem To.trans {h2 : Heap} {x2 : ι → Sl} (t : To p n h x h' x') (u : To p n h' x' h2 x2) : To p n h x h2 x2 := by
  refine ⟨Nat.le_trans t.size u.size, fun b hb hp hx => ?_, fun i b hb => ?_, fun a ha hr => ?_⟩
  · rw [u.same b (Nat.lt_of_lt_of_le hb t.size) hp (fun i e => ?_), t.same b hb hp hx]
    rcases t.foot i b e with ⟨j, g⟩ | g
    · exact hx j g
    · omega
  · rcases u.foot i b hb with ⟨j, g⟩ | g
    · exact t.foot j b g
    · exact .inr (Nat.le_trans t.size g)
  · have h1 := t.root a ha hr
    have h2 := u.root a ha hr
    exact ⟨h2.1.trans h1.1, h2.2.trans h1.2⟩
theorem To.ext (e : Ext h h') (hp : p.block < h.size) : To p n h x h' x := by
  refine ⟨e.size, fun b hb _ _ => e.same b hb (by simp), fun i b hb => .inl ⟨i, hb⟩, fun a ha _ => ?_⟩
  have := e.same a.block (by rw [ha]; exact hp) (by simp)
  unfold cell? frozen?
  rw [this]; exact ⟨rfl, rfl⟩
theorem To.row (i : ι) {s' : Sl} (k : Keep (x i).blk h h') (hpi : (x i).blk ≠ some p.block) (hb : ∀ b, s'.blk = some b → (x i).blk = some b ∨ h.size ≤ b) (hp : p.block < h.size) : To p n h x h' (upd x i s') := by
  refine ⟨k.size, fun b hb _ hx => k.same b hb (fun e => hx i e.symm), fun j b hj => ?_, fun a ha _ => ?_⟩
  · by_cases e : j = i
    · subst e
      rw [upd_at] at hj
      exact (hb b hj).imp (fun g => ⟨j, g⟩) id
    · rw [upd_ne e] at hj
      exact .inl ⟨j, hj⟩
  · have := k.same a.block (by rw [ha]; exact hp) (fun e => hpi (by rw [← e, ha]))
    unfold cell? frozen?
    rw [this]; exact ⟨rfl, rfl⟩
theorem To.set {k : Nat} {v : Value} (hs : p.spot = none) (hk : k < n) : To p n h x (setCell h (p.add k) v) x := by
  have kk := Keep.setCell h (p.add k) v
  rw [addr_add_block] at kk
  refine ⟨kk.size, fun b hb hp _ => kk.same b hb (fun e => hp (by injection e)), fun i b hb => .inl ⟨i, hb⟩, fun a ha hr => ⟨?_, frozen_set⟩⟩
  refine cell_set_ne (.inr (.inl ?_))
  rw [addr_add _ _ hs]
  simp only
  omega
theorem To.names (hx : ∀ i b, (x' i).blk = some b → (∃ j, (x j).blk = some b)) : To p n h x h x' := ⟨Nat.le_refl _, fun _ _ _ _ => rfl, fun i b hb => .inl (hx i b hb), fun _ _ _ => ⟨rfl, rfl⟩⟩
theorem To.out (t : To p n h x h' x') {b : Nat} (hb : b < h.size) (o : Out p x b) : Out p x' b := by
  refine ⟨o.1, fun i e => ?_⟩
  rcases t.foot i b e with ⟨j, g⟩ | g
  · exact o.2 j g
  · omega
theorem To.cell (t : To p n h x h' x') {a : Addr} {v : Value} (hc : cell? h a = some v) (o : Out p x a.block) : cell? h' a = some v := by
  have := t.same a.block (cell_lt hc) o.1 o.2
  unfold cell? at hc ⊢
  rw [this]; exact hc
theorem To.frozen (t : To p n h x h' x') {a : Addr} {f : Bool} (hl : a.block < h.size) (hf : frozen? h a = f) (o : Out p x a.block) : frozen? h' a = f := by
  have := t.same a.block hl o.1 o.2
  unfold frozen? at hf ⊢
  rw [this]; exact hf
theorem R.to {α : Type} {toV : α → Value} {xs : List α} (hr : R toV h s xs) (t : To p n h x h' x') (o : ∀ b, s.blk = some b → Out p x b) : R toV h' s xs := by
  cases ha : s.a with
  | none =>
    refine ⟨hr.len, hr.cap, ?_⟩
    have := hr.cells
    rw [ha] at this ⊢
    exact this
  | some a =>
    refine R.mk' hr.len hr.cap a ha (fun i hi => ?_)
    obtain ⟨a', ha', hc⟩ := hr.get hi
    rw [ha] at ha'; cases ha'
    exact t.cell hc (by rw [addr_add_block]; exact o a.block (by simp [Sl.blk, ha]))
theorem OwnV.too (ho : OwnV h s l) (t : To p n h x h' x') (o : ∀ b, s.blk = some b → Out p x b) : OwnV h' s l := by
  obtain ⟨ys, e, q⟩ := ho
  refine ⟨ys, e, R.to q.r t o, ?_⟩
  rcases q.own with g | ⟨b, c, T, h1, h2, h3, h4⟩
  · exact .inl g
  · refine .inr ⟨b, c, T, h1, h2, ?_, h4⟩
    have ob := o b (by simp [Sl.blk, h1])
    rw [t.same b (Array.getElem?_eq_some_iff.1 h3).1 ob.1 ob.2]; exact h3
theorem NS.too {κ : Type} {sy : κ → Nat} {y : κ → Sl} {ws : κ → List Value} (q : NS sy h y ws) (t : To p n h x h' x') (o : ∀ i b, (y i).blk = some b → Out p x b) : NS sy h' y ws :=
  ⟨fun i => (q.own i).too t (fun b hb => o i b hb), q.inj⟩
end Go.Sh

namespace Go.Cla
def atI (l : List Int) (i : Nat) : Int := l.getD i 0
def tr (l : Int) : Nat := l.natAbs - 1
def sg (l : Int) : Int := if l < 0 then -1 else 1
def There (n : Nat) (l : Int) : Prop := l ≠ 0 ∧ l ≤ (n : Int) ∧ -(n : Int) ≤ l
instance (n : Nat) (l : Int) : Decidable (There n l) := by unfold There; infer_instance
def vl (V : List Int) (l : Int) : Int := if There V.length l then atI V (tr l) * sg l else 0
theorem There.tr {n : Nat} {l : Int} (h : There n l) : tr l < n := by unfold There at h; unfold Cla.tr; omega
theorem There.neg {n : Nat} {l : Int} (h : There n l) : There n (-l) := by unfold There at *; omega
theorem tr_neg (l : Int) : tr (-l) = tr l := by unfold tr; omega
theorem sg_neg {l : Int} (h : l ≠ 0) : sg (-l) = - sg l := by unfold sg; split <;> split <;> omega
theorem sg_sq (l : Int) : sg l * sg l = 1 := by unfold sg; split <;> rfl
theorem sg_or (l : Int) : sg l = 1 ∨ sg l = -1 := by unfold sg; split <;> simp
theorem lit_eq {l m : Int} (h1 : l ≠ 0) (h2 : m ≠ 0) (ht : tr l = tr m) : m = l ∨ m = -l := by unfold tr at ht; omega
theorem lit_same {l m : Int} (h1 : l ≠ 0) (h2 : m ≠ 0) (ht : tr l = tr m) (hs : sg l = sg m) : l = m := by unfold tr at ht; unfold sg at hs; split at hs <;> split at hs <;> omega
theorem vl_neg (V : List Int) (l : Int) : vl V (-l) = - vl V l := by
  unfold vl
  by_cases h : There V.length l
  · rw [if_pos h, if_pos h.neg, tr_neg, sg_neg h.1]
    exact Int.mul_neg _ _
  · rw [if_neg h, if_neg (fun h2 => h (by have := h2.neg; rwa [Int.neg_neg] at this))]; rfl
def Tri (V : List Int) : Prop := ∀ x ∈ V, x = -1 ∨ x = 0 ∨ x = 1
theorem at_mem {V : List Int} {i : Nat} (h : i < V.length) : atI V i ∈ V := by
  unfold atI; rw [List.getD_eq_getElem?_getD, List.getElem?_eq_getElem h]; exact List.getElem_mem h
theorem Tri.at {V : List Int} (h : Tri V) (i : Nat) : atI V i = -1 ∨ atI V i = 0 ∨ atI V i = 1 := by
  by_cases hi : i < V.length
  · exact h _ (at_mem hi)
  · right; left; unfold atI; rw [List.getD_eq_getElem?_getD, List.getElem?_eq_none (by omega)]; rfl
theorem Tri.vl {V : List Int} (h : Tri V) (l : Int) : vl V l = -1 ∨ vl V l = 0 ∨ vl V l = 1 := by
  unfold Cla.vl
  split
  · rcases h.at (tr l) with e | e | e <;> rcases sg_or l with g | g <;> rw [e, g] <;> simp
  · simp
theorem vl_there {V : List Int} {l : Int} (h : vl V l ≠ 0) : There V.length l := by
  unfold vl at h
  split at h
  · assumption
  · exact absurd rfl h
theorem at_of {V : List Int} {v : Nat} (hv : v < V.length) (x : Int) : vl V ((v : Int) + 1) = x ↔ atI V v = x := by
  have : There V.length ((v : Int) + 1) := by unfold There; omega
  unfold vl
  rw [if_pos this]
  have h1 : tr ((v : Int) + 1) = v := by unfold tr; omega
  have h2 : sg ((v : Int) + 1) = 1 := by unfold sg; rw [if_neg (by omega)]
  rw [h1, h2, Int.mul_one]
inductive Der (C : List Int → Prop) (T : Int → Prop) : Int → Prop
  | told {l : Int} : T l → Der C T l
  | unit {c : List Int} {l : Int} : C c → l ∈ c → (∀ m ∈ c, m ≠ l → Der C T (-m)) → Der C T l
theorem Der.mono {C C' : List Int → Prop} {T T' : Int → Prop} (hC : ∀ c, C c → ∃ c', C' c' ∧ ∀ l, l ∈ c ↔ l ∈ c') (hT : ∀ l, T l → Der C' T' l) {l : Int} (h : Der C T l) : Der C' T' l := by
  induction h with
  | told h => exact hT _ h
  | unit hc hl _ ih =>
    obtain ⟨c', h1, h2⟩ := hC _ hc
    exact .unit h1 ((h2 _).1 hl) (fun m hm hne => ih m ((h2 m).2 hm) hne)
def Stand (V : List Int) (c : List Int) : Prop := (∃ l ∈ c, vl V l = 1) ∨ ∃ l ∈ c, ∃ m ∈ c, l ≠ m ∧ vl V l = 0 ∧ vl V m = 0
def FalseC (V : List Int) (c : List Int) : Prop := ∀ l ∈ c, vl V l = -1
theorem Der.inV {C : List Int → Prop} {T : Int → Prop} {V : List Int} (hcl : ∀ c, C c → Stand V c) (hT : ∀ l, T l → vl V l = 1) {l : Int} (h : Der C T l) : vl V l = 1 := by
  induction h with
  | told h => exact hT _ h
  | @unit c l hc hl _ ih =>
    have other : ∀ m ∈ c, m ≠ l → vl V m = -1 := fun m hm hne => by have := ih m hm hne; rw [vl_neg] at this; omega
    rcases hcl c hc with ⟨m, hm, e⟩ | ⟨m, hm, k, hk, hne, e1, e2⟩
    · by_cases h : m = l
      · rw [← h]; exact e
      · rw [other m hm h] at e; cases e
    · by_cases h : m = l
      · have := other k hk (fun h2 => hne (by rw [h, h2])); rw [this] at e2; cases e2
      · rw [other m hm h] at e1; cases e1
theorem false_stand {V : List Int} {c : List Int} (h1 : FalseC V c) (h2 : Stand V c) : False := by
  rcases h2 with ⟨m, hm, e⟩ | ⟨m, hm, k, hk, hne, e1, e2⟩
  · rw [h1 m hm] at e; cases e
  · rw [h1 m hm] at e1; cases e1
theorem no_clash {C : List Int → Prop} {T : Int → Prop} {V W : List Int} (hcl : ∀ c, C c → Stand V c) (hT : ∀ l, T l → vl V l = 1) (hW : ∀ l, vl W l = 1 → Der C T l) {c : List Int} (hc : C c) (hf : FalseC W c) : False :=
  false_stand (V := V) (fun l hl => by
    have h1 := hf l hl
    have h2 : vl W (-l) = 1 := by rw [vl_neg, h1]; rfl
    have h3 := (hW _ h2).inV hcl hT
    rw [vl_neg] at h3; omega) (hcl c hc)
theorem ext_at {V W : List Int} (hl : V.length = W.length) (h : ∀ i, i < V.length → atI V i = atI W i) : V = W := by
  apply List.ext_getElem hl
  intro i h1 h2
  have := h i h1
  unfold atI at this
  rw [List.getD_eq_getElem?_getD, List.getD_eq_getElem?_getD, List.getElem?_eq_getElem h1, List.getElem?_eq_getElem h2] at this
  exact this
theorem same_val {V W : List Int} (hl : V.length = W.length) (hV : Tri V) (hW : Tri W) (h : ∀ l, vl V l = 1 ↔ vl W l = 1) : V = W := by
  refine ext_at hl fun i hi => ?_
  have h1 := h ((i : Int) + 1)
  rw [at_of hi, at_of (by omega)] at h1
  have h2 := h (-((i : Int) + 1))
  rw [vl_neg, vl_neg] at h2
  have h3 : ∀ U : List Int, i < U.length → (- vl U ((i : Int) + 1) = 1 ↔ atI U i = -1) := fun U hU => by
    have := at_of hU (-1)
    rw [← this]; omega
  rw [h3 V hi, h3 W (by omega)] at h2
  rcases hV.at i with e | e | e <;> rcases hW.at i with g | g | g <;> rw [e, g] <;> simp_all
theorem one_closure {C : List Int → Prop} {T : Int → Prop} {V W : List Int} (hl : V.length = W.length) (hV : Tri V) (hW : Tri W) (cV : ∀ c, C c → Stand V c) (cW : ∀ c, C c → Stand W c) (tV : ∀ l, T l → vl V l = 1) (tW : ∀ l, T l → vl W l = 1)
    (dV : ∀ l, vl V l = 1 → Der C T l) (dW : ∀ l, vl W l = 1 → Der C T l) : V = W :=
  same_val hl hV hW fun l => ⟨fun h => (dV l h).inV cW tW, fun h => (dW l h).inV cV tV⟩
end Go.Cla

namespace Go.Sh
open Go Go.Lift Go.Cla
inductive Nm where
  | cls | wat | val | lev | rea | tra | hea
  | w (i : Nat) | c (i : Nat) | x (i : Nat)
def Nm.sc : Nm → Nat
  | .cls => 3
  | _ => 1
structure Cl where
  lits : List Int
  learned : Bool
  use : Int
structure SS where
  cls : List Cl
  wat : List (List Int)
  val : List Int
  lev : List Int
  rea : List Int
  tra : List Int
  hea : List Int
  nxt : Nat
def SS.cl (S : SS) (i : Nat) : Cl := S.cls.getD i ⟨[], false, 0⟩
def SS.wt (S : SS) (w : Nat) : List Int := S.wat.getD w []
abbrev toI : Int → Value := Value.int .i64
theorem one_toI : ∀ x : Int, one (toI x) = true := fun _ => rfl
theorem at_atI (l : List Int) (i : Nat) : at0 l i = atI l i := rfl
def rootV (x : Nm → Sl) (nxt : Nat) : Nat → Value
  | 0 => Sl.toV (x .cls)
  | 1 => Sl.toV (x .wat)
  | 2 => Sl.toV (x .val)
  | 3 => Sl.toV (x .lev)
  | 4 => Sl.toV (x .rea)
  | 5 => Sl.toV (x .tra)
  | 6 => Sl.toV (x .hea)
  | _ => toI nxt
def RootC (h : Heap) (p : Addr) (f : Nat → Value) : Prop := ∀ k, k < 8 → cell? h (p.add k) = some (f k) ∧ frozen? h (p.add k) = false
structure Enc (x : Nm → Sl) (vs : Nm → List Value) (S : SS) : Prop where
  val : vs .val = S.val.map toI
  lev : vs .lev = S.lev.map toI
  rea : vs .rea = S.rea.map toI
  tra : vs .tra = S.tra.map toI
  hea : vs .hea = S.hea.map toI
  wlen : (vs .wat).length = S.wat.length
  wr : ∀ i, i < S.wat.length → (vs .wat)[i]? = some (Sl.toV (x (.w i)))
  w : ∀ i, vs (.w i) = (S.wt i).map toI
  clen : (vs .cls).length = 3 * S.cls.length
  cr : ∀ i, i < S.cls.length → (vs .cls)[3 * i]? = some (Sl.toV (x (.c i))) ∧ (vs .cls)[3 * i + 1]? = some (Value.bool (S.cl i).learned) ∧ (vs .cls)[3 * i + 2]? = some (toI (S.cl i).use)
  c : ∀ i, vs (.c i) = (S.cl i).lits.map toI
structure SM (h : Heap) (p : Addr) (x : Nm → Sl) (vs : Nm → List Value) (S : SS) : Prop where
  ns : NS Nm.sc h x vs
  spot : p.spot = none
  root : RootC h p (rootV x S.nxt)
  pn : ∀ i, (x i).blk ≠ some p.block
  enc : Enc x vs S
variable {h h' : Heap} {p : Addr} {x : Nm → Sl} {vs : Nm → List Value} {S : SS} {n : Nat}
theorem RootC.keep {f : Nat → Value} (r : RootC h p f) {o : Option Nat} (k : Keep o h h') (ho : some p.block ≠ o) : RootC h' p f := fun i hi => by
  have := r i hi
  exact ⟨cell_keep k this.1 (by rw [addr_add_block]; exact ho), frozen_keep k (cell_lt this.1) this.2 (by rw [addr_add_block]; exact ho)⟩
theorem RootC.lt {f : Nat → Value} (r : RootC h p f) : p.block < h.size := by
  have := cell_lt (r 0 (by decide)).1; rwa [addr_add_block] at this
theorem RootC.set {f : Nat → Value} (r : RootC h p f) (hs : p.spot = none) {i : Nat} (hi : i < 8) (v : Value) : RootC (setCell h (p.add i) v) p (fun k => if k = i then v else f k) := fun k hk => by
  refine ⟨?_, by rw [frozen_set]; exact (r k hk).2⟩
  by_cases e : k = i
  · subst e
    rw [cell_set_same (r k hk).1]; exact congrArg some (if_pos rfl).symm
  · rw [cell_set_ne (.inr (.inl ?_))]
    · exact (r k hk).1.trans (congrArg some (if_neg e).symm)
    · rw [addr_add _ _ hs, addr_add _ _ hs]; simp only; omega
theorem SM.plt (q : SM h p x vs S) : p.block < h.size := q.root.lt
theorem SM.ext (q : SM h p x vs S) (e : Ext h h') : SM h' p x vs S := ⟨q.ns.ext e, q.spot, q.root.keep e (by simp), q.pn, q.enc⟩
theorem SM.toExt (q : SM h p x vs S) (e : Ext h h') : To p 8 h x h' x := To.ext e q.plt
theorem SM.ld0 (q : SM h p x vs S) {k : Addr → Sl → Prop} (K : k p (x .cls)) : nilChk (some p) fun a => Lift.load Sl.toV (a.add 0) h (k a) := ⟨p, rfl, _, (q.root 0 (by decide)).1, K⟩
theorem SM.ld1 (q : SM h p x vs S) {k : Addr → Sl → Prop} (K : k p (x .wat)) : nilChk (some p) fun a => Lift.load Sl.toV (a.add 1) h (k a) := ⟨p, rfl, _, (q.root 1 (by decide)).1, K⟩
theorem SM.ld2 (q : SM h p x vs S) {k : Addr → Sl → Prop} (K : k p (x .val)) : nilChk (some p) fun a => Lift.load Sl.toV (a.add 2) h (k a) := ⟨p, rfl, _, (q.root 2 (by decide)).1, K⟩
theorem SM.ld3 (q : SM h p x vs S) {k : Addr → Sl → Prop} (K : k p (x .lev)) : nilChk (some p) fun a => Lift.load Sl.toV (a.add 3) h (k a) := ⟨p, rfl, _, (q.root 3 (by decide)).1, K⟩
theorem SM.ld4 (q : SM h p x vs S) {k : Addr → Sl → Prop} (K : k p (x .rea)) : nilChk (some p) fun a => Lift.load Sl.toV (a.add 4) h (k a) := ⟨p, rfl, _, (q.root 4 (by decide)).1, K⟩
theorem SM.ld5 (q : SM h p x vs S) {k : Addr → Sl → Prop} (K : k p (x .tra)) : nilChk (some p) fun a => Lift.load Sl.toV (a.add 5) h (k a) := ⟨p, rfl, _, (q.root 5 (by decide)).1, K⟩
theorem SM.ld6 (q : SM h p x vs S) {k : Addr → Sl → Prop} (K : k p (x .hea)) : nilChk (some p) fun a => Lift.load Sl.toV (a.add 6) h (k a) := ⟨p, rfl, _, (q.root 6 (by decide)).1, K⟩
theorem SM.ld7 (q : SM h p x vs S) {k : Addr → Int → Prop} (K : k p (S.nxt : Int)) : nilChk (some p) fun a => Lift.load (Value.int .i64) (a.add 7) h (k a) := ⟨p, rfl, _, (q.root 7 (by decide)).1, K⟩
theorem SM.ownI (q : SM h p x vs S) {nm : Nm} (hs : nm.sc = 1) {l : List Int} (e : vs nm = l.map toI) : Own toI 0 h (x nm) l := by
  have := q.ns.own nm
  rw [hs, Sl.sc_one, e] at this
  exact this.to
theorem SM.val (q : SM h p x vs S) : Own toI 0 h (x .val) S.val := q.ownI rfl q.enc.val
theorem SM.lev (q : SM h p x vs S) : Own toI 0 h (x .lev) S.lev := q.ownI rfl q.enc.lev
theorem SM.rea (q : SM h p x vs S) : Own toI 0 h (x .rea) S.rea := q.ownI rfl q.enc.rea
theorem SM.tra (q : SM h p x vs S) : Own toI 0 h (x .tra) S.tra := q.ownI rfl q.enc.tra
theorem SM.hea (q : SM h p x vs S) : Own toI 0 h (x .hea) S.hea := q.ownI rfl q.enc.hea
theorem SM.wt (q : SM h p x vs S) (i : Nat) : Own toI 0 h (x (.w i)) (S.wt i) := q.ownI rfl (q.enc.w i)
theorem SM.cl (q : SM h p x vs S) (i : Nat) : Own toI 0 h (x (.c i)) (S.cl i).lits := q.ownI rfl (q.enc.c i)
theorem SM.clsLen (q : SM h p x vs S) : (x .cls).len = S.cls.length := by
  have h1 := (q.ns.own .cls).len
  rw [q.enc.clen] at h1
  simp only [Sl.sc, Nm.sc] at h1
  omega
theorem SM.watLen (q : SM h p x vs S) : (x .wat).len = S.wat.length := by
  have h1 := (q.ns.own .wat).len
  rw [q.enc.wlen] at h1
  simp only [Sl.sc, Nm.sc] at h1
  omega
theorem get?_get {l : List Value} {i : Nat} {v : Value} (h : l[i]? = some v) : ∃ hi : i < l.length, l[i] = v := by
  rw [List.getElem?_eq_some_iff] at h
  exact h
theorem SM.watAt (q : SM h p x vs S) {i : Int} {w : Nat} {k : Addr → Prop} (hi : i = (w : Int)) (hw : w < S.wat.length) (K : ∀ a, (x .wat).a = some a → cell? h (a.add w) = some (Sl.toV (x (.w w))) → k (a.add w)) : idxS (x .wat) i 1 k := by
  subst hi
  have h1 := q.ns.own .wat
  rw [show Nm.sc .wat = 1 from rfl, Sl.sc_one] at h1
  obtain ⟨hl, e⟩ := get?_get (q.enc.wr w hw)
  obtain ⟨b, ha, hc⟩ := h1.get hl
  rw [e] at hc
  refine ⟨_, ha, ⟨by omega, by rw [q.watLen]; omega⟩, ?_⟩
  simp only [Int.toNat_natCast, Nat.mul_one]
  exact K _ ha hc
theorem SM.watLd (q : SM h p x vs S) {i : Int} {w : Nat} {k : Sl → Prop} (hi : i = (w : Int)) (hw : w < S.wat.length) (K : k (x (.w w))) : idxS (x .wat) i 1 fun a => Lift.load Sl.toV a h k :=
  q.watAt hi hw fun _ _ hc => ⟨_, hc, K⟩
theorem SM.clsAt (q : SM h p x vs S) {i : Int} {j : Nat} {k : Addr → Prop} (hi : i = (j : Int)) (hj : j < S.cls.length) (K : ∀ a, (x .cls).a = some a → cell? h ((a.add (j * 3)).add 0) = some (Sl.toV (x (.c j))) → cell? h ((a.add (j * 3)).add 1) = some (Value.bool (S.cl j).learned) → cell? h ((a.add (j * 3)).add 2) = some (toI (S.cl j).use) → k (a.add (j * 3))) : idxS (x .cls) i 3 k := by
  subst hi
  have h1 := q.ns.own .cls
  obtain ⟨r0, r1, r2⟩ := q.enc.cr j hj
  obtain ⟨l0, e0⟩ := get?_get r0
  obtain ⟨l1, e1⟩ := get?_get r1
  obtain ⟨l2, e2⟩ := get?_get r2
  obtain ⟨b, ha, g0⟩ := h1.get l0
  obtain ⟨b1, ha1, g1⟩ := h1.get l1
  obtain ⟨b2, ha2, g2⟩ := h1.get l2
  rw [ha] at ha1 ha2
  cases ha1; cases ha2
  rw [e0] at g0; rw [e1] at g1; rw [e2] at g2
  refine ⟨_, ha, ⟨by omega, by rw [q.clsLen]; omega⟩, ?_⟩
  simp only [Int.toNat_natCast]
  refine K _ ha ?_ ?_ ?_
  · rw [addr_add_add, show j * 3 + 0 = 3 * j by omega]; exact g0
  · rw [addr_add_add, show j * 3 + 1 = 3 * j + 1 by omega]; exact g1
  · rw [addr_add_add, show j * 3 + 2 = 3 * j + 2 by omega]; exact g2
theorem SM.clsLits (q : SM h p x vs S) {i : Int} {j : Nat} {k : Sl → Prop} (hi : i = (j : Int)) (hj : j < S.cls.length) (K : k (x (.c j))) : idxS (x .cls) i 3 fun a => Lift.load Sl.toV (a.add 0) h k :=
  q.clsAt hi hj fun _ _ hc _ _ => ⟨_, hc, K⟩
theorem NS.stI {sc : Nm → Nat} (q : NS sc h x vs) (hp : p.block < h.size) (pn : ∀ i, (x i).blk ≠ some p.block) {nm : Nm} (hs : sc nm = 1) {l : List Int} (e : vs nm = l.map toI) {i : Int} {j : Nat} {y : Int} {k : Heap → Prop} (hij : i = (j : Int)) (hj : j < l.length)
    (K : ∀ h', NS sc h' x (upd vs nm ((l.set j y).map toI)) → Keep (x nm).blk h h' → To p n h x h' x → k h') : idxS (x nm) i 1 fun a => Lift.store a (toI y) h k := by
  subst hij
  have h1 := q.own nm
  rw [hs, Sl.sc_one, e] at h1
  have h2 := h1.to
  obtain ⟨a, ha, hc⟩ := h2.r.get hj
  refine ⟨a, ha, ⟨by omega, by rw [h2.r.len]; omega⟩, ?_⟩
  simp only [Int.toNat_natCast, Nat.mul_one]
  refine h2.store hj ha y fun h' o k' hs' => ?_
  have o2 : OwnV h' (Sl.sc (sc nm) (x nm)) ((l.set j y).map toI) := by rw [hs, Sl.sc_one]; exact OwnV.of one_toI o
  have h3 := q.put nm k' o2 (fun b hb => .inl hb)
  rw [upd_self] at h3
  have h4 := To.row (n := n) nm (s' := x nm) k' (pn nm) (fun b hb => .inl hb) hp
  rw [upd_self] at h4
  exact K h' h3 k' h4
theorem SM.stI (q : SM h p x vs S) {nm : Nm} (hs : nm.sc = 1) {l : List Int} (e : vs nm = l.map toI) {i : Int} {j : Nat} {y : Int} {k : Heap → Prop} {S' : SS} (hij : i = (j : Int)) (hj : j < l.length) (hE : Enc x (upd vs nm ((l.set j y).map toI)) S') (hn : S'.nxt = S.nxt)
    (K : ∀ h', SM h' p x (upd vs nm ((l.set j y).map toI)) S' → To p 8 h x h' x → k h') : idxS (x nm) i 1 fun a => Lift.store a (toI y) h k :=
  q.ns.stI q.plt q.pn hs e hij hj fun h' n' k' t' => K h' ⟨n', q.spot, by rw [hn]; exact q.root.keep k' (fun e => q.pn nm e.symm), q.pn, hE⟩ t'
theorem Enc.setVal (E : Enc x vs S) (l : List Int) : Enc x (upd vs .val (l.map toI)) { S with val := l } :=
  { val := upd_at, lev := by rw [upd_ne (by simp)]; exact E.lev, rea := by rw [upd_ne (by simp)]; exact E.rea, tra := by rw [upd_ne (by simp)]; exact E.tra, hea := by rw [upd_ne (by simp)]; exact E.hea
    wlen := by rw [upd_ne (by simp)]; exact E.wlen, wr := by rw [upd_ne (by simp)]; exact E.wr, w := fun i => by rw [upd_ne (by simp)]; exact E.w i, clen := by rw [upd_ne (by simp)]; exact E.clen, cr := by rw [upd_ne (by simp)]; exact E.cr, c := fun i => by rw [upd_ne (by simp)]; exact E.c i }
theorem Enc.setLev (E : Enc x vs S) (l : List Int) : Enc x (upd vs .lev (l.map toI)) { S with lev := l } :=
  { lev := upd_at, val := by rw [upd_ne (by simp)]; exact E.val, rea := by rw [upd_ne (by simp)]; exact E.rea, tra := by rw [upd_ne (by simp)]; exact E.tra, hea := by rw [upd_ne (by simp)]; exact E.hea
    wlen := by rw [upd_ne (by simp)]; exact E.wlen, wr := by rw [upd_ne (by simp)]; exact E.wr, w := fun i => by rw [upd_ne (by simp)]; exact E.w i, clen := by rw [upd_ne (by simp)]; exact E.clen, cr := by rw [upd_ne (by simp)]; exact E.cr, c := fun i => by rw [upd_ne (by simp)]; exact E.c i }
theorem Enc.setRea (E : Enc x vs S) (l : List Int) : Enc x (upd vs .rea (l.map toI)) { S with rea := l } :=
  { rea := upd_at, lev := by rw [upd_ne (by simp)]; exact E.lev, val := by rw [upd_ne (by simp)]; exact E.val, tra := by rw [upd_ne (by simp)]; exact E.tra, hea := by rw [upd_ne (by simp)]; exact E.hea
    wlen := by rw [upd_ne (by simp)]; exact E.wlen, wr := by rw [upd_ne (by simp)]; exact E.wr, w := fun i => by rw [upd_ne (by simp)]; exact E.w i, clen := by rw [upd_ne (by simp)]; exact E.clen, cr := by rw [upd_ne (by simp)]; exact E.cr, c := fun i => by rw [upd_ne (by simp)]; exact E.c i }
theorem Enc.setTra (E : Enc x vs S) (s : Sl) (l : List Int) : Enc (upd x .tra s) (upd vs .tra (l.map toI)) { S with tra := l } :=
  { tra := upd_at, lev := by rw [upd_ne (by simp)]; exact E.lev, val := by rw [upd_ne (by simp)]; exact E.val, rea := by rw [upd_ne (by simp)]; exact E.rea, hea := by rw [upd_ne (by simp)]; exact E.hea
    wlen := by rw [upd_ne (by simp)]; exact E.wlen, wr := fun i hi => by rw [upd_ne (by simp), upd_ne (by simp)]; exact E.wr i hi, w := fun i => by rw [upd_ne (by simp)]; exact E.w i, clen := by rw [upd_ne (by simp)]; exact E.clen, cr := fun i hi => by rw [upd_ne (by simp), upd_ne (by simp)]; exact E.cr i hi, c := fun i => by rw [upd_ne (by simp)]; exact E.c i }
theorem Enc.setHea (E : Enc x vs S) (s : Sl) (l : List Int) : Enc (upd x .hea s) (upd vs .hea (l.map toI)) { S with hea := l } :=
  { hea := upd_at, lev := by rw [upd_ne (by simp)]; exact E.lev, val := by rw [upd_ne (by simp)]; exact E.val, rea := by rw [upd_ne (by simp)]; exact E.rea, tra := by rw [upd_ne (by simp)]; exact E.tra
    wlen := by rw [upd_ne (by simp)]; exact E.wlen, wr := fun i hi => by rw [upd_ne (by simp), upd_ne (by simp)]; exact E.wr i hi, w := fun i => by rw [upd_ne (by simp)]; exact E.w i, clen := by rw [upd_ne (by simp)]; exact E.clen, cr := fun i hi => by rw [upd_ne (by simp), upd_ne (by simp)]; exact E.cr i hi, c := fun i => by rw [upd_ne (by simp)]; exact E.c i }
theorem getD_set {α : Type} (l : List α) (i j : Nat) (a d : α) (hi : i < l.length) : (l.set i a).getD j d = if j = i then a else l.getD j d := by
  rw [List.getD_eq_getElem?_getD, List.getD_eq_getElem?_getD, List.getElem?_set]
  by_cases e : i = j
  · subst e; simp [hi]
  · have : ¬ j = i := fun h => e h.symm
    simp [e, this]
theorem Enc.setW (E : Enc x vs S) {w : Nat} (hw : w < S.wat.length) (s : Sl) (l : List Int) : Enc (upd x (.w w) s) (upd (upd vs (.w w) (l.map toI)) .wat ((vs .wat).set w (Sl.toV s))) { S with wat := S.wat.set w l } :=
  { val := by rw [upd_ne (by simp), upd_ne (by simp)]; exact E.val, lev := by rw [upd_ne (by simp), upd_ne (by simp)]; exact E.lev, rea := by rw [upd_ne (by simp), upd_ne (by simp)]; exact E.rea, tra := by rw [upd_ne (by simp), upd_ne (by simp)]; exact E.tra, hea := by rw [upd_ne (by simp), upd_ne (by simp)]; exact E.hea
    wlen := by rw [upd_at, List.length_set, List.length_set]; exact E.wlen
    wr := fun i hi => by
      rw [upd_at, List.getElem?_set]
      rw [List.length_set] at hi
      by_cases e : w = i
      · subst e; rw [if_pos rfl, if_pos (by rw [E.wlen]; exact hw), upd_at]
      · rw [if_neg e, upd_ne (by simp; exact fun h => e h.symm)]; exact E.wr i hi
    w := fun i => by
      rw [upd_ne (by simp)]
      unfold SS.wt
      rw [getD_set _ _ _ _ _ hw]
      by_cases e : i = w
      · subst e; rw [upd_at, if_pos rfl]
      · rw [upd_ne (by simpa using e), if_neg e]; exact E.w i
    clen := by rw [upd_ne (by simp), upd_ne (by simp)]; exact E.clen
    cr := fun i hi => by rw [upd_ne (by simp), upd_ne (by simp), upd_ne (by simp)]; exact E.cr i hi
    c := fun i => by rw [upd_ne (by simp), upd_ne (by simp)]; exact E.c i }
theorem Enc.setC (E : Enc x vs S) {j : Nat} (hj : j < S.cls.length) (l : List Int) : Enc x (upd vs (.c j) (l.map toI)) { S with cls := S.cls.set j { S.cl j with lits := l } } := by
  have key : ∀ i, ({ S with cls := S.cls.set j { S.cl j with lits := l } } : SS).cl i = if i = j then { S.cl j with lits := l } else S.cl i := fun i => getD_set _ _ _ _ _ hj
  exact
  { val := by rw [upd_ne (by simp)]; exact E.val, lev := by rw [upd_ne (by simp)]; exact E.lev, rea := by rw [upd_ne (by simp)]; exact E.rea, tra := by rw [upd_ne (by simp)]; exact E.tra, hea := by rw [upd_ne (by simp)]; exact E.hea
    wlen := by rw [upd_ne (by simp)]; exact E.wlen, wr := by rw [upd_ne (by simp)]; exact E.wr, w := fun i => by rw [upd_ne (by simp)]; exact E.w i
    clen := by rw [upd_ne (by simp), List.length_set]; exact E.clen
    cr := fun i hi => by
      rw [List.length_set] at hi
      rw [upd_ne (by simp), key]
      have := E.cr i hi
      by_cases e : i = j
      · subst e; rw [if_pos rfl]; exact this
      · rw [if_neg e]; exact this
    c := fun i => by
      rw [key]
      by_cases e : i = j
      · subst e; rw [upd_at, if_pos rfl]
      · rw [upd_ne (by simpa using e), if_neg e]; exact E.c i }
theorem Enc.setU (E : Enc x vs S) {j : Nat} (hj : j < S.cls.length) (u : Int) : Enc x (upd vs .cls ((vs .cls).set (3 * j + 2) (toI u))) { S with cls := S.cls.set j { S.cl j with use := u } } := by
  have key : ∀ i, ({ S with cls := S.cls.set j { S.cl j with use := u } } : SS).cl i = if i = j then { S.cl j with use := u } else S.cl i := fun i => getD_set _ _ _ _ _ hj
  have hl := E.clen
  exact
  { val := by rw [upd_ne (by simp)]; exact E.val, lev := by rw [upd_ne (by simp)]; exact E.lev, rea := by rw [upd_ne (by simp)]; exact E.rea, tra := by rw [upd_ne (by simp)]; exact E.tra, hea := by rw [upd_ne (by simp)]; exact E.hea
    wlen := by rw [upd_ne (by simp)]; exact E.wlen, wr := by rw [upd_ne (by simp)]; exact E.wr, w := fun i => by rw [upd_ne (by simp)]; exact E.w i
    clen := by rw [upd_at, List.length_set, List.length_set]; exact E.clen
    cr := fun i hi => by
      rw [List.length_set] at hi
      rw [upd_at, key, List.getElem?_set_ne (by omega), List.getElem?_set_ne (by omega)]
      have := E.cr i hi
      by_cases e : i = j
      · subst e
        rw [if_pos rfl, List.getElem?_set_self (by omega)]
        exact ⟨this.1, this.2.1, rfl⟩
      · rw [if_neg e, List.getElem?_set_ne (by omega)]; exact this
    c := fun i => by
      rw [upd_ne (by simp), key]
      by_cases e : i = j
      · subst e; rw [if_pos rfl]; exact E.c i
      · rw [if_neg e]; exact E.c i }
theorem Enc.addC (E : Enc x vs S) (s t : Sl) (c : Cl) : Enc (upd (upd x (.c S.cls.length) s) .cls t) (upd (upd vs (.c S.cls.length) (c.lits.map toI)) .cls (vs .cls ++ [Sl.toV s, Value.bool c.learned, toI c.use])) { S with cls := S.cls ++ [c] } := by
  have hl := E.clen
  have key : ∀ i, ({ S with cls := S.cls ++ [c] } : SS).cl i = if i = S.cls.length then c else S.cl i := fun i => by
    unfold SS.cl
    rw [List.getD_eq_getElem?_getD, List.getD_eq_getElem?_getD]
    by_cases e : i = S.cls.length
    · subst e; rw [if_pos rfl]; simp
    · rw [if_neg e]
      by_cases h : i < S.cls.length
      · rw [List.getElem?_append_left h]
      · rw [List.getElem?_append_right (by omega), List.getElem?_eq_none (l := S.cls) (by omega), List.getElem?_eq_none (by simp; omega)]
  exact
  { val := by rw [upd_ne (by simp), upd_ne (by simp)]; exact E.val, lev := by rw [upd_ne (by simp), upd_ne (by simp)]; exact E.lev, rea := by rw [upd_ne (by simp), upd_ne (by simp)]; exact E.rea, tra := by rw [upd_ne (by simp), upd_ne (by simp)]; exact E.tra, hea := by rw [upd_ne (by simp), upd_ne (by simp)]; exact E.hea
    wlen := by rw [upd_ne (by simp), upd_ne (by simp)]; exact E.wlen, wr := fun i hi => by rw [upd_ne (by simp), upd_ne (by simp), upd_ne (by simp), upd_ne (by simp)]; exact E.wr i hi, w := fun i => by rw [upd_ne (by simp), upd_ne (by simp)]; exact E.w i
    clen := by rw [upd_at]; simp; omega
    cr := fun i hi => by
      rw [upd_at, key, upd_ne (by simp)]
      by_cases e : i = S.cls.length
      · subst e
        rw [if_pos rfl, upd_at, List.getElem?_append_right (by omega), List.getElem?_append_right (by omega), List.getElem?_append_right (by omega)]
        rw [show 3 * S.cls.length - (vs Nm.cls).length = 0 by omega, show 3 * S.cls.length + 1 - (vs Nm.cls).length = 1 by omega, show 3 * S.cls.length + 2 - (vs Nm.cls).length = 2 by omega]
        exact ⟨rfl, rfl, rfl⟩
      · have hi' : i < S.cls.length := by simp at hi; omega
        rw [if_neg e, upd_ne (by simpa using e), List.getElem?_append_left (by omega), List.getElem?_append_left (by omega), List.getElem?_append_left (by omega)]
        exact E.cr i hi'
    c := fun i => by
      rw [upd_ne (by simp), key]
      by_cases e : i = S.cls.length
      · subst e; rw [upd_at, if_pos rfl]
      · rw [upd_ne (by simpa using e), if_neg e]; exact E.c i }
end Go.Sh

namespace Go.Sh
open Go Go.Lift Go.Cla
variable {h h' : Heap} {p : Addr} {x : Nm → Sl} {vs : Nm → List Value} {S : SS} {n : Nat}
def wch (l : Int) : Nat := if l > 0 then 2 * tr l else 2 * tr l + 1
theorem wch_lt {l : Int} (h : There n l) : wch l < 2 * n := by have := h.tr; unfold wch; split <;> omega
theorem wch_inj {l m : Int} (hl : l ≠ 0) (hm : m ≠ 0) (e : wch l = wch m) : l = m := by unfold wch tr at e; split at e <;> split at e <;> omega
theorem truth_spec {l : Int} {Q : Int → Heap → Prop} (hl : There n l) (hn : n ≤ 1048576) (K : Q (tr l : Int) h) : clause_truth l h Q := by
  unfold clause_truth
  unfold There at hl
  rw [w64 (n := 0 - l) (by omega) (by omega)]
  have : (if 0 - l > l then 0 - l else l) - 1 = (tr l : Int) := by unfold tr; split <;> omega
  rw [this, w64 (by unfold tr; omega) (by unfold tr; omega)]
  exact K
theorem sign_spec {l : Int} {Q : Int → Heap → Prop} (hl : l ≠ 0) (K : Q (sg l) h) : clause_sign l h Q := by
  unfold clause_sign
  have : (if (-1 : Int) > (if (1 : Int) < l then 1 else l) then -1 else (if (1 : Int) < l then 1 else l)) = sg l := by
    unfold sg; split <;> split <;> omega
  first | (rw [this]; exact K) | (simpa [this] using K)
theorem watch_spec {l : Int} {Q : Int → Heap → Prop} (hl : There n l) (hn : n ≤ 1048576) (K : Q (wch l : Int) h) : clause_watch l h Q := by
  have h1 := hl.tr
  unfold wch at K
  refine ⟨fun hp => truth_spec hl hn ?_, fun hp => truth_spec hl hn ?_⟩
  · simp only [decide_eq_true_eq] at hp
    rw [if_pos hp] at K
    rw [w64 (by omega) (by omega)]
    simpa using K
  · simp only [decide_eq_false_iff_not] at hp
    rw [if_neg hp] at K
    rw [w64 (n := 2 * (tr l : Int)) (by omega) (by omega), w64 (by omega) (by omega)]
    simpa using K
theorem there_spec {a : Addr} {v : Sl} {l : Int} {Q : Bool → Heap → Prop} (hc : cell? h (a.add 2) = some (Sl.toV v)) (hl : v.len = n) (hn : n ≤ 1048576) (K : Q (decide (There n l)) h) : clause_there (some a) l h Q := by
  refine seq.cut (fun (b : Bool) h2 => h2 = h ∧ b = decide (There n l)) ?_ (fun b h2 ⟨e, hb⟩ => by subst e hb; exact K)
  refine ⟨fun h0 => ⟨a, rfl, v, hc, fun h1 => ⟨a, rfl, v, hc, rfl, ?_⟩, fun h1 => ⟨rfl, ?_⟩⟩, fun h0 => ⟨rfl, ?_⟩⟩
  · simp only [decide_eq_true_eq, bne_iff_ne, ne_eq] at h0 h1
    rw [hl, w64 (by omega) (by omega)]
    rw [decide_eq_decide]
    unfold There
    omega
  · simp only [decide_eq_false_iff_not] at h1
    have : ¬ There n l := by unfold There; omega
    simp [this]
  · have h0 : l = 0 := by simpa using h0
    have : ¬ There n l := by unfold There; omega
    simp [this]
abbrev S8 := Sl × Sl × Sl × Sl × Sl × Sl × Sl × Int
theorem Value_spec {s : S8} {V : List Int} {l : Int} {Q : Int → Heap → Prop} (hV : RJ h s.2.2.1 V) (hn : V.length ≤ 1048576) (ht : Tri V) (K : ∀ h', Ext h h' → Q (vl V l) h') : clause_Value s l h Q := by
  intro T
  have e := Ext.push h (.cells [Sl.toV s.1, Sl.toV s.2.1, Sl.toV s.2.2.1, Sl.toV s.2.2.2.1, Sl.toV s.2.2.2.2.1, Sl.toV s.2.2.2.2.2.1, Sl.toV s.2.2.2.2.2.2.1, Value.int .i64 s.2.2.2.2.2.2.2].toArray T (0, 0))
  have hc : cell? (h.push (.cells [Sl.toV s.1, Sl.toV s.2.1, Sl.toV s.2.2.1, Sl.toV s.2.2.2.1, Sl.toV s.2.2.2.2.1, Sl.toV s.2.2.2.2.2.1, Sl.toV s.2.2.2.2.2.2.1, Value.int .i64 s.2.2.2.2.2.2.2].toArray T (0, 0))) ((⟨h.size, 0, none⟩ : Addr).add 2) = some (Sl.toV s.2.2.1) := by
    rw [cell_push_new_add]; rfl
  generalize (h.push (.cells [Sl.toV s.1, Sl.toV s.2.1, Sl.toV s.2.2.1, Sl.toV s.2.2.2.1, Sl.toV s.2.2.2.2.1, Sl.toV s.2.2.2.2.2.1, Sl.toV s.2.2.2.2.2.2.1, Value.int .i64 s.2.2.2.2.2.2.2].toArray T (0, 0)) : Heap) = h1 at *
  have hV1 := R.ext hV e
  refine there_spec hc hV1.len hn ⟨fun hno => ?_, fun hy => ?_⟩
  · have : ¬ There V.length l := by simpa using hno
    have K := K h1 e
    unfold vl at K
    rw [if_neg this] at K
    exact K
  · have hth : There V.length l := by simpa using hy
    refine ⟨s.2.2.1, hc, truth_spec hth hn ⟨hc, ?_⟩⟩
    obtain ⟨a, ha, hca⟩ := hV1.get hth.tr
    refine ⟨a, ha, ⟨by omega, by have := hth.tr; have := hV1.len; omega⟩, ?_⟩
    simp only [Int.toNat_natCast, Nat.mul_one]
    refine ⟨_, hca, sign_spec hth.1 ⟨hc, hca, ?_⟩⟩
    have K := K h1 e
    unfold vl at K
    rw [if_pos hth] at K
    have e2 : atI V (tr l) = V[tr l]'hth.tr := at_get hth.tr
    rw [← e2]
    have h3 := ht.at (tr l)
    have h4 := sg_or l
    rw [w64 (by rcases h3 with g | g | g <;> rcases h4 with k | k <;> rw [g, k] <;> decide) (by rcases h3 with g | g | g <;> rcases h4 with k | k <;> rw [g, k] <;> decide)]
    exact K
theorem SM.ldS (q : SM h p x vs S) {k : S8 → Prop} (K : k (x .cls, x .wat, x .val, x .lev, x .rea, x .tra, x .hea, (S.nxt : Int))) : nilChk (some p) fun a => loadS C_sl_sl_sl_sl_sl_sl_sl_i64 8 a h k := by
  refine ⟨p, rfl, _, ?_, K⟩
  have := cells?_mk (h := h) (a := p) (C_sl_sl_sl_sl_sl_sl_sl_i64 (x .cls, x .wat, x .val, x .lev, x .rea, x .tra, x .hea, (S.nxt : Int))) 0 (fun j hj => by
    have hj : j < 8 := hj
    rw [Nat.zero_add, (q.root j hj).1]
    match j, hj with
    | 0, _ => rfl
    | 1, _ => rfl
    | 2, _ => rfl
    | 3, _ => rfl
    | 4, _ => rfl
    | 5, _ => rfl
    | 6, _ => rfl
    | 7, _ => rfl)
  exact this
structure Bnd (S : SS) : Prop where
  n : S.val.length ≤ 1048576
  cn : S.cls.length ≤ 1073741824
  tn : S.tra.length ≤ 1073741824
  hn : S.hea.length ≤ 1073741824
  wn : ∀ w, (S.wt w).length ≤ 1073741824
theorem SM.there (q : SM h p x vs S) {l : Int} {Q : Bool → Heap → Prop} (hn : S.val.length ≤ 1048576) (K : Q (decide (There S.val.length l)) h) : clause_there (some p) l h Q :=
  there_spec (q.root 2 (by decide)).1 q.val.r.len hn K
theorem SM.value (q : SM h p x vs S) {l : Int} {Q : Int → Heap → Prop} (hn : S.val.length ≤ 1048576) (ht : Tri S.val) (K : ∀ h', Ext h h' → Q (vl S.val l) h') : nilChk (some p) fun a => loadS C_sl_sl_sl_sl_sl_sl_sl_i64 8 a h fun v => clause_Value (v.1, v.2.1, v.2.2.1, v.2.2.2.1, v.2.2.2.2.1, v.2.2.2.2.2.1, v.2.2.2.2.2.2.1, v.2.2.2.2.2.2.2) l h Q :=
  q.ldS (Value_spec q.val.r hn ht K)
theorem newJ {y : Int} {k : Addr → Heap → Prop} (K : ∀ h', R toI h' ⟨some ⟨h.size, 0, none⟩, 1, 1⟩ [y] → Ext h h' → h'.size = h.size + 1 → k ⟨h.size, 0, none⟩ h') : new [toI y] h k := by
  intro T
  exact K _ (Own.new (toV := toI) (h := h) (ys := [y]) (cs := [toI y]) (T := T) rfl).r (Ext.push _ _) (by simp)
theorem rootV_ne {nm : Nm} {s : Sl} {k : Nat} (h : nm ≠ .cls ∧ nm ≠ .wat ∧ nm ≠ .val ∧ nm ≠ .lev ∧ nm ≠ .rea ∧ nm ≠ .tra ∧ nm ≠ .hea) : rootV (upd x nm s) k = rootV x k := by
  obtain ⟨h0, h1, h2, h3, h4, h5, h6⟩ := h
  funext i
  match i with
  | 0 => simp only [rootV]; rw [upd_ne h0.symm]
  | 1 => simp only [rootV]; rw [upd_ne h1.symm]
  | 2 => simp only [rootV]; rw [upd_ne h2.symm]
  | 3 => simp only [rootV]; rw [upd_ne h3.symm]
  | 4 => simp only [rootV]; rw [upd_ne h4.symm]
  | 5 => simp only [rootV]; rw [upd_ne h5.symm]
  | 6 => simp only [rootV]; rw [upd_ne h6.symm]
  | (i + 7) => rfl
theorem NS.app {sc : Nm → Nat} (q : NS sc h x vs) (hp : p.block < h.size) (pn : ∀ i, (x i).blk ≠ some p.block) {nm : Nm} (hs : sc nm = 1) {l : List Int} (e : vs nm = l.map toI) {row : Sl} {ys : List Int} (hr : R toI h row ys) (hb : (l.length + ys.length) * 8 ≤ 2 ^ 46) {k : Sl → Heap → Prop}
    (K : ∀ v h', NS sc h' (upd x nm v) (upd vs nm ((l ++ ys).map toI)) → Keep (x nm).blk h h' → To p 8 h x h' (upd x nm v) → (∀ i, (upd x nm v i).blk ≠ some p.block) → k v h') : appendS 1 8 (x nm) row h k := by
  have h1 := q.own nm
  rw [hs, Sl.sc_one, e] at h1
  refine h1.append (ys := ys.map toI) ⟨_, (ones_of (one_of one_toI ys)).choose_spec, R.same hr (ones_of (one_of one_toI ys)).choose_spec⟩ (by simpa using hb) fun v h' o k' hbl => ?_
  rw [← List.map_append] at o
  have o2 : OwnV h' (Sl.sc (sc nm) v) ((l ++ ys).map toI) := by rw [hs, Sl.sc_one]; exact o
  refine K v h' (q.put nm k' o2 hbl) k' (To.row nm k' (pn nm) hbl hp) fun i => ?_
  by_cases e2 : i = nm
  · subst e2
    rw [upd_at]
    intro hv
    rcases hbl _ hv with g | g
    · exact pn i g
    · omega
  · rw [upd_ne e2]; exact pn i
structure Mid (h h2 : Heap) (p : Addr) (x : Nm → Sl) (vs : Nm → List Value) (S : SS) (w : Nat) (v : Sl) (y : Int) : Prop where
  ns : NS Nm.sc h2 (upd x (.w w) v) (upd vs (.w w) ((S.wt w ++ [y]).map toI))
  root : RootC h2 p (rootV x S.nxt)
  to : To p 8 h x h2 (upd x (.w w) v)
  pn : ∀ i, (upd x (.w w) v i).blk ≠ some p.block
theorem SM.appW (q : SM h p x vs S) {w : Nat} {row : Sl} {y : Int} (hr : R toI h row [y]) (hb : (S.wt w).length ≤ 2000000000) {k : Sl → Heap → Prop} (K : ∀ v h2, Mid h h2 p x vs S w v y → k v h2) : appendS 1 8 (x (.w w)) row h k :=
  q.ns.app q.plt q.pn (nm := .w w) rfl (q.enc.w w) hr (by simp; omega) fun v h' n' k' t' pn' => K v h' ⟨n', q.root.keep k' (fun e => q.pn _ e.symm), t', pn'⟩
def addW (S : SS) (w : Nat) (y : Int) : SS := { S with wat := S.wat.set w (S.wt w ++ [y]) }
theorem Mid.store {h0 h : Heap} (q : SM h0 p x vs S) {w : Nat} {v : Sl} {y i : Int} (m : Mid h0 h p x vs S w v y) (hi : i = (w : Int)) (hw : w < S.wat.length) {k : Heap → Prop} (K : ∀ h' vs', SM h' p (upd x (.w w) v) vs' (addW S w y) → To p 8 h0 x h' (upd x (.w w) v) → k h') : idxS (x .wat) i 1 fun a => Lift.store a (Sl.toV v) h k := by
  subst hi
  have h1 := m.ns.own .wat
  rw [upd_ne (by simp), upd_ne (by simp), show Nm.sc .wat = 1 from rfl, Sl.sc_one] at h1
  have hl : w < (vs .wat).length := by rw [q.enc.wlen]; exact hw
  obtain ⟨b, ha, hc⟩ := h1.get hl
  refine ⟨_, ha, ⟨by omega, by rw [q.watLen]; omega⟩, ?_⟩
  simp only [Int.toNat_natCast, Nat.mul_one]
  refine h1.st hl ha rfl fun h' o k' hs => ?_
  have h2 := m.ns.put .wat (s' := x .wat) (l' := (vs .wat).set w (Sl.toV v)) (h' := h') (by rw [upd_ne (by simp)]; exact k') (by rw [show Nm.sc .wat = 1 from rfl, Sl.sc_one]; exact o) (fun b hb => .inl (by rw [upd_ne (by simp)]; exact hb))
  have e1 : upd (upd x (.w w) v) .wat (x .wat) = upd x (.w w) v := by
    have := upd_self (x := upd x (.w w) v) (i := .wat)
    rwa [upd_ne (by simp)] at this
  rw [e1] at h2
  have kr := m.root.keep k' (fun e => q.pn _ e.symm)
  have t2 := To.row (p := p) (n := 8) (x := upd x (.w w) v) .wat (s' := x .wat) (h := h) (h' := h') (by rw [upd_ne (by simp)]; exact k') (by rw [upd_ne (by simp)]; exact q.pn _) (fun b hb => .inl (by rw [upd_ne (by simp)]; exact hb)) m.root.lt
  rw [e1] at t2
  refine K h' _ ⟨h2, q.spot, ?_, m.pn, q.enc.setW hw v _⟩ (m.to.trans t2)
  intro i hi
  have := kr i hi
  rw [rootV_ne (by simp)]
  exact this
theorem SM.pushTra (q : SM h p x vs S) {row : Sl} {y : Int} (hr : R toI h row [y]) (hb : S.tra.length ≤ 1073741824) {k : Heap → Prop} (K : ∀ h' x' vs', SM h' p x' vs' { S with tra := S.tra ++ [y] } → To p 8 h x h' x' → k h') :
    appendS 1 8 (x .tra) row h fun v h1 => nilChk (some p) fun a => Lift.store (a.add 5) (Sl.toV v) h1 k := by
  refine q.ns.app q.plt q.pn (nm := .tra) rfl q.enc.tra hr (by simp; omega) fun v h1 n1 k1 t1 pn1 => ?_
  have r1 := q.root.keep k1 (fun e => q.pn _ e.symm)
  refine ⟨p, rfl, ⟨_, (r1 5 (by decide)).1⟩, (r1 5 (by decide)).2, ?_⟩
  have k2 := Keep.setCell h1 (p.add 5) (Sl.toV v)
  rw [addr_add_block] at k2
  refine K _ _ _ ⟨n1.keep k2 (fun i b hb e => pn1 i (by rw [hb, e])), q.spot, ?_, pn1, q.enc.setTra v _⟩ (t1.trans (To.set q.spot (by decide)))
  intro i hi
  have := r1.set q.spot (i := 5) (by decide) (Sl.toV v) i hi
  refine ⟨this.1.trans ?_, this.2⟩
  match i, hi with
  | 0, _ => simp only [rootV]; rw [upd_ne (by simp)]; rfl
  | 1, _ => simp only [rootV]; rw [upd_ne (by simp)]; rfl
  | 2, _ => simp only [rootV]; rw [upd_ne (by simp)]; rfl
  | 3, _ => simp only [rootV]; rw [upd_ne (by simp)]; rfl
  | 4, _ => simp only [rootV]; rw [upd_ne (by simp)]; rfl
  | 5, _ => simp only [rootV]; rw [upd_at]; rfl
  | 6, _ => simp only [rootV]; rw [upd_ne (by simp)]; rfl
  | 7, _ => rfl
theorem SM.pushHea (q : SM h p x vs S) {row : Sl} {y : Int} (hr : R toI h row [y]) (hb : S.hea.length ≤ 1073741824) {k : Heap → Prop} (K : ∀ h' x' vs', SM h' p x' vs' { S with hea := S.hea ++ [y] } → To p 8 h x h' x' → k h') :
    appendS 1 8 (x .hea) row h fun v h1 => nilChk (some p) fun a => Lift.store (a.add 6) (Sl.toV v) h1 k := by
  refine q.ns.app q.plt q.pn (nm := .hea) rfl q.enc.hea hr (by simp; omega) fun v h1 n1 k1 t1 pn1 => ?_
  have r1 := q.root.keep k1 (fun e => q.pn _ e.symm)
  refine ⟨p, rfl, ⟨_, (r1 6 (by decide)).1⟩, (r1 6 (by decide)).2, ?_⟩
  have k2 := Keep.setCell h1 (p.add 6) (Sl.toV v)
  rw [addr_add_block] at k2
  refine K _ _ _ ⟨n1.keep k2 (fun i b hb e => pn1 i (by rw [hb, e])), q.spot, ?_, pn1, q.enc.setHea v _⟩ (t1.trans (To.set q.spot (by decide)))
  intro i hi
  have := r1.set q.spot (i := 6) (by decide) (Sl.toV v) i hi
  refine ⟨this.1.trans ?_, this.2⟩
  match i, hi with
  | 0, _ => simp only [rootV]; rw [upd_ne (by simp)]; rfl
  | 1, _ => simp only [rootV]; rw [upd_ne (by simp)]; rfl
  | 2, _ => simp only [rootV]; rw [upd_ne (by simp)]; rfl
  | 3, _ => simp only [rootV]; rw [upd_ne (by simp)]; rfl
  | 4, _ => simp only [rootV]; rw [upd_ne (by simp)]; rfl
  | 5, _ => simp only [rootV]; rw [upd_ne (by simp)]; rfl
  | 6, _ => simp only [rootV]; rw [upd_at]; rfl
  | 7, _ => rfl
theorem SM.setNxt (q : SM h p x vs S) {i : Int} {m : Nat} (hi : i = (m : Int)) {k : Heap → Prop} (K : ∀ h', SM h' p x vs { S with nxt := m } → To p 8 h x h' x → k h') : nilChk (some p) fun a => Lift.store (a.add 7) (toI i) h k := by
  subst hi
  refine ⟨p, rfl, ⟨_, (q.root 7 (by decide)).1⟩, (q.root 7 (by decide)).2, ?_⟩
  have k2 := Keep.setCell h (p.add 7) (toI m)
  rw [addr_add_block] at k2
  refine K _ ⟨q.ns.keep k2 (fun i b hb e => q.pn i (by rw [hb, e])), q.spot, ?_, q.pn, ⟨q.enc.val, q.enc.lev, q.enc.rea, q.enc.tra, q.enc.hea, q.enc.wlen, q.enc.wr, q.enc.w, q.enc.clen, q.enc.cr, q.enc.c⟩⟩ (To.set q.spot (by decide))
  intro i hi
  have := q.root.set q.spot (i := 7) (by decide) (toI m) i hi
  refine ⟨this.1.trans ?_, this.2⟩
  match i, hi with
  | 0, _ => rfl
  | 1, _ => rfl
  | 2, _ => rfl
  | 3, _ => rfl
  | 4, _ => rfl
  | 5, _ => rfl
  | 6, _ => rfl
  | 7, _ => rfl
def putS (S : SS) (l r : Int) : SS := { S with val := S.val.set (tr l) (sg l), lev := S.lev.set (tr l) S.hea.length, rea := S.rea.set (tr l) r, tra := S.tra ++ [l] }
theorem put_spec {l r : Int} {Q : Unit → Heap → Prop} (q : SM h p x vs S) (b : Bnd S) (hl : There S.val.length l) (h1 : S.lev.length = S.val.length) (h2 : S.rea.length = S.val.length)
    (K : ∀ h' x' vs', SM h' p x' vs' (putS S l r) → To p 8 h x h' x' → Q () h') : clause_put (some p) l r h Q := by
  have hn := b.n
  have ht := hl.tr
  refine truth_spec hl hn (q.ld2 (q.ld3 (q.ld4 (q.ld6 (sign_spec hl.1 ⟨(q.root 2 (by decide)).1, (q.root 3 (by decide)).1, (q.root 4 (by decide)).1, (q.root 6 (by decide)).1, ?_⟩)))))
  refine q.stI (nm := .val) rfl q.enc.val (j := tr l) rfl ht (q.enc.setVal _) rfl fun h1' q1 t1 => ?_
  rw [q.hea.r.len]
  refine q1.stI (nm := .lev) rfl q1.enc.lev (j := tr l) rfl (by show tr l < S.lev.length; omega) (q1.enc.setLev _) rfl fun h2' q2 t2 => ?_
  refine q2.stI (nm := .rea) rfl q2.enc.rea (j := tr l) rfl (by show tr l < S.rea.length; omega) (q2.enc.setRea _) rfl fun h3 q3 t3 => ?_
  refine q3.ld5 (newJ fun h4 hr e4 _ => ?_)
  refine (q3.ext e4).pushTra hr b.tn fun h5 x5 vs5 q5 t5 => ?_
  exact K h5 x5 vs5 q5 ((t1.trans (t2.trans t3)).trans ((q3.toExt e4).trans t5))
open Classical in
theorem Tell_spec {l r : Int} {Q : Bool → Heap → Prop} (q : SM h p x vs S) (b : Bnd S) (ht : Tri S.val) (h1 : S.lev.length = S.val.length) (h2 : S.rea.length = S.val.length)
    (K0 : (¬ There S.val.length l ∨ vl S.val l = -1) → ∀ h', Ext h h' → Q false h')
    (K1 : There S.val.length l → vl S.val l = 1 → ∀ h', Ext h h' → Q true h')
    (K2 : There S.val.length l → vl S.val l = 0 → ∀ h' x' vs', SM h' p x' vs' (putS S l r) → To p 8 h x h' x' → Q true h') : clause_Tell (some p) l r h Q := by
  have hn := b.n
  have h3 := ht.vl l
  refine seq.cut (fun (_ : Unit) h2 => Q true h2) ?_ (fun _ h2 hq => hq)
  refine seq.cut (fun (c : Bool) h2 => Ext h h2 ∧ (c = true ↔ ¬ There S.val.length l ∨ vl S.val l = -1)) ?_ ?_
  · refine q.there hn ⟨fun hno => ⟨Keep.refl _ _, ?_⟩, fun hy => ?_⟩
    · have : ¬ There S.val.length l := by simpa using hno
      simp [this]
    · have hth : There S.val.length l := by simpa using hy
      refine q.value hn ht fun h4 e4 => ⟨e4, ?_⟩
      simp only [decide_eq_true_eq, hth, not_true, false_or]
      omega
  · rintro c h4 ⟨e4, hc⟩
    refine ⟨fun hct => K0 (hc.1 hct) h4 e4, fun hcf => ?_⟩
    have hno : ¬ (¬ There S.val.length l ∨ vl S.val l = -1) := fun h => by rw [hc.2 h] at hcf; cases hcf
    have hth : There S.val.length l := Classical.byContradiction fun h => hno (.inl h)
    have hv : vl S.val l ≠ -1 := fun h => hno (.inr h)
    refine (q.ext e4).value hn ht fun h5 e5 => ⟨fun hz => ?_, fun hz => ?_⟩
    · have q5 := (q.ext e4).ext e5
      refine put_spec q5 b hth h1 h2 fun h6 x6 vs6 q6 t6 => K2 hth (by simpa using hz) h6 x6 vs6 q6 ((q.toExt (e4.trans e5)).trans t6)
    · have hz : vl S.val l ≠ 0 := by simpa using hz
      exact K1 hth (by omega) h5 (e4.trans e5)
end Go.Sh

/-
  Laws that the proof of this claim's statement leans on, each proved under the conditions that it states.
-/
import Derived.Test.YtlclchgingkkhaaGreatDoorSpE
import Derived.Test.YtlclchgingkkhaaGreatDoorFwC
set_option linter.unusedVariables false
set_option linter.unusedSimpArgs false
namespace Go.Sh
open Go Go.Lift
structure RK (K : Nat → Prop) (h : Heap) (x : X3) (q : Rat) : Prop where
  rq : RQ h x q
  num : ∀ k, K k → x.2.1.blk = some k → q.num.natAbs = 0
  den : ∀ k, K k → x.2.2.blk = some k → dn q = 0
section
variable {K K' : Nat → Prop} {h h' h0 : Heap} {x : X3} {q : Rat}
theorem RK.rf (hx : RK K h x q) {k : Nat} (hk : K k) : RF k h x q := ⟨⟨hx.rq.num, hx.num k hk⟩, ⟨hx.rq.den, hx.den k hk⟩, hx.rq.neg⟩
theorem RK.keep (hx : RK K h x q) {o : Option Nat} (e : Keep o h h') (ho : ∀ k, o = some k → K k) : RK K h' x q := by
  cases o with
  | none => exact ⟨hx.rq.ext e, hx.num, hx.den⟩
  | some k => exact ⟨((hx.rf (ho k rfl)).keep e).rq, hx.num, hx.den⟩
theorem RK.ext (hx : RK K h x q) (e : Ext h h') : RK K h' x q := hx.keep e (by simp)
theorem RK.raise (hx : RK K h x q) (hk : ∀ k, K' k → K k ∨ h.size ≤ k) : RK K' h x q := by
  refine ⟨hx.rq, fun k h1 h2 => ?_, fun k h1 h2 => ?_⟩
  · rcases hk k h1 with h3 | h3
    · exact hx.num k h3 h2
    · exact Classical.byContradiction fun hn => by have := hx.rq.num.lt_blk h2 hn; omega
  · rcases hk k h1 with h3 | h3
    · exact hx.den k h3 h2
    · exact Classical.byContradiction fun hn => by have := hx.rq.den.lt_blk h2 hn; omega
theorem RK.of_rq (hx : RQ h x q) (hk : ∀ k, K k → h.size ≤ k) : RK K h x q :=
  RK.raise (K := fun _ => False) ⟨hx, fun _ h => h.elim, fun _ h => h.elim⟩ (fun k h => .inr (hk k h))
theorem RK.fresh (hx : RQ h x q) (hf : Fr h0 x) (hk : ∀ k, K k → k < h0.size) : RK K h x q :=
  ⟨hx, fun k h1 h2 => by have := hk k h1; have := hf.1 k h2; omega, fun k h1 h2 => by have := hk k h1; have := hf.2 k h2; omega⟩
theorem RK.zero : RK K h (false, Sl.nil, Sl.nil) 0 := ⟨RQ.zero, fun _ _ h => (by cases h), fun _ _ h => (by cases h)⟩
end
inductive All2 {α β : Type} (R : α → β → Prop) : List α → List β → Prop
  | nil : All2 R [] []
  | cons {a b l m} : R a b → All2 R l m → All2 R (a :: l) (b :: m)
section
variable {α β : Type} {R S : α → β → Prop} {l l' : List α} {m m' : List β}
theorem All2.length (h : All2 R l m) : l.length = m.length := by induction h <;> simp_all
theorem All2.append (h : All2 R l m) (h' : All2 R l' m') : All2 R (l ++ l') (m ++ m') := by
  induction h with
  | nil => exact h'
  | cons h1 _ ih => exact .cons h1 ih
theorem All2.imp (h : All2 R l m) (hi : ∀ a b, R a b → S a b) : All2 S l m := by
  induction h with
  | nil => exact .nil
  | cons h1 _ ih => exact .cons (hi _ _ h1) ih
theorem All2.get (h : All2 R l m) : ∀ (i : Nat) (h1 : i < l.length) (h2 : i < m.length), R l[i] m[i] := by
  induction h with
  | nil => intro i h1; simp at h1
  | cons h1 _ ih =>
    intro i h2 h3
    cases i with
    | zero => exact h1
    | succ i => exact ih i (by simpa using h2) (by simpa using h3)
end
theorem cells_keep {h h' : Heap} {o : Option Nat} (e : Keep o h h') {a : Addr} (hne : some a.block ≠ o) : ∀ {n i : Nat} {l : List Value}, cells? h a n i = some l → cells? h' a n i = some l := by
  intro n
  induction n with
  | zero => intro i l h1; exact h1
  | succ n ih =>
    intro i l h1
    simp only [cells?] at h1 ⊢
    split at h1 <;> simp at h1
    rename_i v r h2 h3
    subst h1
    have hb : (a.add i).block = a.block := addr_add_block a i
    rw [cell_keep e h2 (by rw [hb]; exact hne), ih h3]
theorem RS.keep {α : Type} {toC : α → List Value} {sz : Nat} {h h' : Heap} {s : Sl} {xs : List α} {o : Option Nat} (hr : RS toC sz h s xs) (e : Keep o h h') (hne : xs ≠ [] → ∀ a, s.a = some a → some a.block ≠ o) : RS toC sz h' s xs :=
  ⟨hr.len, fun i hi => by
    obtain ⟨a, ha, hc⟩ := hr.cells i hi
    have hb : (a.add (i * sz)).block = a.block := addr_add_block _ _
    exact ⟨a, ha, cells_keep e (by rw [hb]; exact hne (by rintro rfl; simp at hi) a ha) hc⟩⟩
theorem RS.lt {α : Type} {toC : α → List Value} {sz : Nat} {h : Heap} {s : Sl} {xs : List α} (hr : RS toC sz h s xs) (h0 : 0 < sz) (hne : xs ≠ []) {b : Nat} (hb : s.blk = some b) : b < h.size := by
  have hi : 0 < xs.length := List.length_pos_iff.2 hne
  obtain ⟨a, ha, hc⟩ := hr.cells 0 hi
  have hl := cells?_length _ _ _ hc
  have := cells?_get _ _ _ hc 0 (by omega)
  have := cell_lt this
  rw [addr_add_block, addr_add_block] at this
  simp [Sl.blk, ha] at hb
  omega
theorem All2.ofGet' {α β : Type} {R : α → β → Prop} : ∀ {l : List α} {m : List β}, l.length = m.length → (∀ k (h1 : k < l.length) (h2 : k < m.length), R l[k] m[k]) → All2 R l m
  | [], [], _, _ => .nil
  | a :: l, b :: m, hl, h => .cons (h 0 (by simp) (by simp)) (All2.ofGet' (by simpa using hl) fun k h1 h2 => h (k + 1) (by simpa using h1) (by simpa using h2))
  | [], _ :: _, hl, _ => by simp at hl
  | _ :: _, [], hl, _ => by simp at hl
end Go.Sh

namespace Go.Sh
open Go Go.Lift
def Blk (h : Heap) (b : Nat) (cs : List Value) : Prop := ∃ T, h[b]? = some (.cells cs.toArray T (0, 0))
structure Env (h0 h : Heap) (L : List (Nat × List Value)) : Prop where
  ext : Ext h0 h
  ge : ∀ x ∈ L, h0.size ≤ x.1
  nd : (L.map (·.1)).Nodup
  at' : ∀ x ∈ L, Blk h x.1 x.2
variable {h0 h : Heap} {L : List (Nat × List Value)}
theorem Env.start : Env h h [] := ⟨Keep.refl _ _, by simp, by simp, by simp⟩
theorem Blk.lt {b : Nat} {cs : List Value} (q : Blk h b cs) : b < h.size := by
  obtain ⟨T, hq⟩ := q
  exact (Array.getElem?_eq_some_iff.1 hq).1
theorem Env.more {h' : Heap} (q : Env h0 h L) (e : Ext h h') : Env h0 h' L :=
  ⟨q.ext.trans e, q.ge, q.nd, fun x hx => by
    obtain ⟨T, hT⟩ := q.at' x hx
    exact ⟨T, by rw [e.same x.1 (Blk.lt ⟨T, hT⟩) (by simp)]; exact hT⟩⟩
theorem Env.mem (q : Env h0 h L) {k : Heap → Prop} (K : ∀ h', Env h0 h' L → k h') : mem h k := mem_ext fun h' e => K h' (q.more e)
theorem Env.new (q : Env h0 h L) {cs : List Value} {k : Addr → Heap → Prop} (K : ∀ b h', Env h0 h' ((b, cs) :: L) → k ⟨b, 0, none⟩ h') : new cs h k := by
  intro T
  refine K h.size _ ⟨q.ext.trans (Ext.push _ _), fun x hx => ?_, ?_, fun x hx => ?_⟩
  · rcases List.mem_cons.1 hx with rfl | hx
    · exact q.ext.size
    · exact q.ge x hx
  · rw [List.map_cons, List.nodup_cons]
    refine ⟨fun hm => ?_, q.nd⟩
    obtain ⟨x, hx, he⟩ := List.mem_map.1 hm
    have := (q.at' x hx).lt
    dsimp only at he
    omega
  · rcases List.mem_cons.1 hx with rfl | hx
    · exact ⟨T, Array.getElem?_push_size⟩
    · obtain ⟨T', hT⟩ := q.at' x hx
      exact ⟨T', by rw [(Ext.push h _).same x.1 (Blk.lt ⟨T', hT⟩) (by simp)]; exact hT⟩
theorem Env.blk (q : Env h0 h L) (n : Nat) {b : Nat} {cs : List Value} (hn : L[n]? = some (b, cs)) : Blk h b cs := q.at' _ (List.mem_of_getElem? hn)
theorem Blk.cell {b i : Nat} {cs : List Value} (q : Blk h b cs) : cell? h ⟨b, i, none⟩ = cs[i]? := by
  obtain ⟨T, hT⟩ := q
  unfold cell?
  dsimp only
  rw [hT]
  simp
theorem Env.load {α : Type} {toV : α → Value} {x : α} {k : α → Prop} (q : Env h0 h L) (n i : Nat) {a : Addr} {b : Nat} {cs : List Value} (ha : a = ⟨b, i, none⟩) (hn : L[n]? = some (b, cs)) (hi : cs[i]? = some (toV x)) (K : k x) : Lift.load toV a h k := by
  subst ha
  exact ⟨x, by rw [(q.blk n hn).cell]; exact hi, K⟩
theorem Env.cells (q : Env h0 h L) (n i m : Nat) {a : Addr} {b : Nat} {cs ds : List Value} (ha : a = ⟨b, i, none⟩) (hn : L[n]? = some (b, cs)) (hd : (cs.drop i).take m = ds) (hm : ds.length = m) : cells? h a m 0 = some ds := by
  subst ha
  have := cells?_mk (h := h) (a := ⟨b, i, none⟩) ds 0 (fun j hj => by
    rw [Nat.zero_add, addr_add _ _ rfl]
    dsimp only
    rw [(q.blk n hn).cell, ← List.getElem?_eq_getElem hj, ← hd, List.getElem?_take, List.getElem?_drop]
    rw [if_pos (by omega)])
  rw [hm] at this
  exact this
theorem Env.loadS {α : Type} {toC : α → List Value} {x : α} {k : α → Prop} (q : Env h0 h L) (n i : Nat) {m : Nat} {a : Addr} {b : Nat} {cs : List Value} (ha : a = ⟨b, i, none⟩) (hn : L[n]? = some (b, cs)) (hd : (cs.drop i).take m = toC x) (hm : (toC x).length = m) (K : k x) : loadS toC m a h k :=
  ⟨x, q.cells n i m ha hn hd hm, K⟩
theorem Env.upd {h' : Heap} (q : Env h0 h L) (n : Nat) {b : Nat} {cs ds : List Value} (hn : L[n]? = some (b, cs)) (k : Keep (some b) h h') (hb : Blk h' b ds) : Env h0 h' (L.set n (b, ds)) := by
  have hlt : n < L.length := (List.getElem?_eq_some_iff.1 hn).1
  have hLn : L[n] = (b, cs) := (List.getElem?_eq_some_iff.1 hn).2
  have hmap : (L.set n (b, ds)).map (·.1) = L.map (·.1) := by
    rw [List.map_set]
    apply List.ext_getElem?
    intro i
    rw [List.getElem?_set]
    split
    · rename_i e; subst e; simp [hlt, hLn]
    · rfl
  have hge : h0.size ≤ b := q.ge (b, cs) (List.mem_of_getElem? hn)
  refine ⟨q.ext.fresh hge k, fun x hx => ?_, by rw [hmap]; exact q.nd, fun x hx => ?_⟩
  · rcases List.mem_or_eq_of_mem_set hx with hx | rfl
    · exact q.ge x hx
    · exact hge
  · obtain ⟨i, hi, hx⟩ := List.mem_iff_getElem.1 hx
    have hi' : i < L.length := by simpa using hi
    by_cases e : n = i
    · subst e
      simp at hx
      subst hx
      exact hb
    · rw [List.getElem_set_ne e] at hx
      subst hx
      obtain ⟨T, hT⟩ := q.at' L[i] (List.getElem_mem hi')
      have hne : L[i].1 ≠ b := by
        intro he
        have hi2 : i < (L.map (·.1)).length := by simpa using hi'
        have hn2 : n < (L.map (·.1)).length := by simpa using hlt
        have h1 : (L.map (·.1))[i] = (L.map (·.1))[n] := by simp [he, hLn]
        rcases Nat.lt_or_gt_of_ne e with hlt | hlt
        · exact (List.pairwise_iff_getElem.1 q.nd n i hn2 hi2 hlt) h1.symm
        · exact (List.pairwise_iff_getElem.1 q.nd i n hi2 hn2 hlt) h1
      exact ⟨T, by rw [k.same _ (Blk.lt ⟨T, hT⟩) (by simpa using hne)]; exact hT⟩
theorem Env.store {v : Value} {k : Heap → Prop} (q : Env h0 h L) (n i : Nat) {a : Addr} {b : Nat} {cs : List Value} (ha : a = ⟨b, i, none⟩) (hn : L[n]? = some (b, cs)) (hi : i < cs.length) (K : ∀ h', Env h0 h' (L.set n (b, cs.set i v)) → k h') : Lift.store a v h k := by
  subst ha
  have qb := q.blk n hn
  obtain ⟨T, hT⟩ := qb
  have qb : Blk h b cs := ⟨T, hT⟩
  refine ⟨⟨cs[i], by rw [qb.cell]; exact List.getElem?_eq_getElem hi⟩, frozen_none hT, K _ (q.upd n hn (Keep.setCell h ⟨b, i, none⟩ v) ⟨T, ?_⟩)⟩
  have := block_set (i := i) hT v
  simpa using this
theorem Env.store0 {v : Value} {k : Heap → Prop} {b : Nat} {cs : List Value} (q : Env h0 h ((b, cs) :: L)) (i : Nat) {a : Addr} (ha : a = ⟨b, i, none⟩) (hi : i < cs.length) (K : ∀ h', Env h0 h' ((b, cs.set i v) :: L) → k h') : Lift.store a v h k :=
  q.store 0 i ha rfl hi K
theorem Env.storeS {vs : List Value} {k : Heap → Prop} (q : Env h0 h L) (n : Nat) {a : Addr} {b : Nat} {cs : List Value} (ha : a = ⟨b, 0, none⟩) (hn : L[n]? = some (b, cs)) (hl : vs.length = cs.length) (K : ∀ h', Env h0 h' (L.set n (b, vs)) → k h') : storeS a vs h k := by
  subst ha
  obtain ⟨T, hT⟩ := q.blk n hn
  obtain ⟨c', h1, h2, _, h4, h5⟩ := setCells_block vs 0 0 h cs.toArray hT (by simp; omega)
  refine ⟨h5, K _ (q.upd n hn (setCells_keep ⟨b, 0, none⟩ vs 0 h) ⟨T, ?_⟩)⟩
  rw [h1]
  have : c' = vs.toArray := by
    apply Array.ext_getElem?
    intro i
    rcases Nat.lt_or_ge i vs.length with hi | hi
    · have := h4 i hi
      simp only [Nat.zero_add] at this
      rw [this]; simp [hi]
    · rw [Array.getElem?_eq_none (by rw [h2]; simp; omega), Array.getElem?_eq_none (by simpa using hi)]
  rw [this]
theorem Env.storeS0 {vs : List Value} {k : Heap → Prop} {b : Nat} {cs : List Value} (q : Env h0 h ((b, cs) :: L)) (hl : vs.length = cs.length) (K : ∀ h', Env h0 h' ((b, vs) :: L) → k h') : Lift.storeS ⟨b, 0, none⟩ vs h k :=
  q.storeS 0 rfl rfl hl K
end Go.Sh

namespace Go.Sh
open Go Go.Lift
abbrev V4 := Bool × Bool × Sl × Sl
abbrev CV4 := C_bool_bool_sl_sl
abbrev vr (y : V4) : X3 := (y.2.1, y.2.2.1, y.2.2.2)
theorem lenV (y : V4) : (CV4 y).length = 4 := rfl
abbrev EV := Bool × Rat
structure VK (K : Nat → Prop) (h : Heap) (y : V4) (e : EV) : Prop where
  t : y.1 = e.1
  n : RK K h (vr y) e.2
section
variable {K K' : Nat → Prop} {h h' h0 : Heap} {y z : V4} {e f : EV} {s : Sl}
theorem VK.keep (v : VK K h y e) {o : Option Nat} (k : Keep o h h') (ho : ∀ b, o = some b → K b) : VK K h' y e := ⟨v.t, v.n.keep k ho⟩
theorem VK.ext (v : VK K h y e) (k : Ext h h') : VK K h' y e := ⟨v.t, v.n.ext k⟩
theorem VK.raise (v : VK K h y e) (hk : ∀ k, K' k → K k ∨ h.size ≤ k) : VK K' h y e := ⟨v.t, v.n.raise hk⟩
structure VL (K : Nat → Prop) (h : Heap) (s : Sl) (es : List EV) : Prop where
  row : ∃ ys : List V4, RS CV4 4 h s ys ∧ All2 (VK K h) ys es
theorem VL.len {es : List EV} (v : VL K h s es) : s.len = es.length := by obtain ⟨ys, h1, h2⟩ := v.row; rw [h1.len, h2.length]
theorem VL.ext {es : List EV} (v : VL K h s es) (k : Ext h h') : VL K h' s es := by
  obtain ⟨ys, h1, h2⟩ := v.row
  exact ⟨ys, h1.ext k, h2.imp fun _ _ q => q.ext k⟩
theorem VL.ld {es : List EV} (v : VL K h s es) {i : Int} {j : Nat} {k : V4 → Prop} (hij : i = (j : Int)) (hj : j < es.length) (H : ∀ y, VK K h y es[j] → k y) : idxS s i 4 fun a => loadS CV4 4 a h k := by
  obtain ⟨ys, h1, h2⟩ := v.row
  have hl := h2.length
  exact h1.ld hij (by omega) (H _ (h2.get j (by omega) hj))
theorem VL.at {es : List EV} (v : VL K h s es) {i : Int} {j : Nat} {k : Addr → Prop} (hij : i = (j : Int)) (hj : j < es.length) (H : ∀ a y, cells? h a 4 0 = some (CV4 y) → VK K h y es[j] → k a) : idxS s i 4 k := by
  obtain ⟨ys, h1, h2⟩ := v.row
  have hl := h2.length
  obtain ⟨a, ha, hc⟩ := h1.cells j (by omega)
  have := h1.len
  subst hij
  exact ⟨a, ha, ⟨by omega, by omega⟩, H _ _ hc (h2.get j (by omega) hj)⟩
theorem cell_t {a : Addr} (hc : cells? h a 4 0 = some (CV4 y)) : cell? h (a.add 0) = some (Value.bool y.1) := by
  have := cells?_get _ _ _ hc 0 (by rw [lenV]; omega)
  rw [Nat.zero_add] at this
  exact this
end
def sameV (a b : EV) : Bool := decide (a.1 = b.1 ∧ a.2 = b.2)
theorem cmpR_zero (p q : Rat) : cmpR p q = 0 ↔ p = q := by
  unfold cmpR
  rw [Int.sign_eq_zero_iff_zero, Rat.num_eq_zero]
  constructor <;> intro h <;> grind
section
variable {K : Nat → Prop} {h : Heap} {y z : V4} {e f : EV}
theorem same_spec {Q : Bool → Heap → Prop} (hy : VK K h y e) (hz : VK K h z f) (hs : szQ e.2 + szQ f.2 ≤ 3000) (h0 : 0 < h.size) (H : ∀ h', Ext h h' → Q (sameV e f) h') : eval_same y z h Q := by
  refine mem_ext fun h1 e1 => ?_
  refine seq.cut (fun t h' => t = sameV e f ∧ Ext h h') ⟨fun g => ?_, fun g => ?_⟩ (fun t h' ⟨ht, e⟩ => ht ▸ H h' e)
  · refine CmpR_spec (hy.n.rq.ext e1) (hz.n.rq.ext e1) hs (Nat.lt_of_lt_of_le h0 e1.size) fun h2 e2 => ⟨?_, e1.trans e2⟩
    have g : e.1 = f.1 := by rw [← hy.t, ← hz.t]; simpa using g
    unfold sameV
    simp only [g, true_and]
    by_cases hq : e.2 = f.2
    · simp [hq, cmpR_zero]
    · have : cmpR e.2 f.2 ≠ 0 := fun h => hq ((cmpR_zero _ _).1 h)
      simp [hq, this]
  · have g : e.1 ≠ f.1 := by rw [← hy.t, ← hz.t]; simpa using g
    exact ⟨by unfold sameV; simp [g], e1⟩
end
end Go.Sh

namespace Go.Sh
open Go Go.Lift
variable {K : Nat → Prop} {h : Heap} {s : Sl} {es : List EV}
theorem find_loop {F : V4 → Heap → (Bool → Heap → Prop) → Prop} {p : EV → Bool} {Q : Int → Heap → Prop} (v : VL K h s es) (hl : es.length ≤ 1000)
    (hF : ∀ (y : V4) (e : EV) (h' : Heap) (J : Bool → Heap → Prop), e ∈ es → Ext h h' → VK K h' y e → (∀ h'', Ext h' h'' → J (p e) h'') → F (y.1, y.2.1, y.2.2.1, y.2.2.2) h' J)
    (H : ∀ i h', Ext h h' → (decide (i ≥ 0) = es.any p) → Q i h') :
    loop (fun (s0u1 : Int) h0 (K0 : Int → Heap → Prop) =>
     iteB (decide (s0u1 < ((s.len : Nat) : Int))) (
      idxS s s0u1 4 fun a =>
      loadS C_bool_bool_sl_sl 4 a h0 fun v =>
      F (v.1, v.2.1, v.2.2.1, v.2.2.2) h0 fun v_1 h0u1 =>
      iteB v_1 (Q s0u1 h0u1) (K0 (IntKind.wrap .i64 (s0u1 + 1)) h0u1)
     ) (Q (-1) h0)) 0 h := by
  have hlen := v.len
  refine loop.inv (fun t h' => ∃ i : Nat, t = (i : Int) ∧ i ≤ es.length ∧ (es.take i).any p = false ∧ Ext h h') (fun t _ => es.length - t.toNat) ⟨0, rfl, by omega, rfl, Keep.refl _ _⟩ ?_
  rintro t h1 ⟨i, rfl, hi, hno, e1⟩
  refine ⟨fun hlt => ?_, fun hge => ?_⟩
  · have hlt := of_decide_eq_true hlt
    have hi' : i < es.length := by omega
    refine (v.ext e1).ld (j := i) rfl hi' fun y hy => hF y es[i] h1 _ (List.getElem_mem hi') e1 hy fun h2 e2 => ⟨fun hb => ?_, fun hb => ?_⟩
    · refine H _ _ (e1.trans e2) ?_
      rw [List.any_eq_true.2 ⟨es[i], List.getElem_mem hi', hb⟩]
      simp
    · rw [w64 (by omega) (by omega)]
      refine ⟨⟨i + 1, by omega, by omega, ?_, e1.trans e2⟩, by omega⟩
      rw [List.take_succ_eq_append_getElem hi', List.any_append, hno]
      simp [hb]
  · have hge := of_decide_eq_false hge
    refine H _ _ e1 ?_
    have : i = es.length := by omega
    subst this
    rw [List.take_length] at hno
    rw [hno]; rfl
theorem anyT_spec {Q : Bool → Heap → Prop} (v : VL K h s es) (hl : es.length ≤ 1000) (H : ∀ h', Ext h h' → Q (es.any fun e => e.1) h') : slices_ContainsFunc_api_Value_api_Value__eval_truth s h Q :=
  find_loop (F := eval_truth) (p := fun e => e.1) v hl (fun y e h' J _ _ hy hJ => mem_ext fun h2 e2 => by rw [show y.1 = e.1 from hy.t]; exact hJ h2 e2) fun i h' e hi => by rw [hi]; exact H h' e
theorem anyN_spec {Q : Bool → Heap → Prop} (v : VL K h s es) (hl : es.length ≤ 1000) (H : ∀ h', Ext h h' → Q (es.any fun e => !e.1) h') : slices_ContainsFunc_api_Value_api_Value__eval_logic_c1 s h Q :=
  find_loop (F := eval_logic_c1) (p := fun e => !e.1) v hl (fun y e h' J _ _ hy hJ => mem_ext fun h2 e2 => by dsimp only; rw [show y.1 = e.1 from hy.t]; exact hJ h2 e2) fun i h' e hi => by rw [hi]; exact H h' e
def sideV (p : EV → EV → Bool) : List EV → Bool
  | a :: b :: r => p a b && sideV p (b :: r)
  | _ => true
theorem sideV_drop (p : EV → EV → Bool) (es : List EV) (i : Nat) (hi : i + 1 < es.length) : sideV p (es.drop i) = (p (es[i]'(by omega)) es[i+1] && sideV p (es.drop (i + 1))) := by
  rw [List.drop_eq_getElem_cons (by omega : i < es.length), List.drop_eq_getElem_cons hi]
  rfl
theorem side_loop {F : V4 → V4 → Heap → (Bool → Heap → Prop) → Prop} {p : EV → EV → Bool} {Q : Bool → Heap → Prop} (v : VL K h s es) (hl : es.length ≤ 1000) (h1 : 1 ≤ es.length)
    (hF : ∀ (y z : V4) (e f : EV) (h' : Heap) (J : Bool → Heap → Prop), e ∈ es → f ∈ es → Ext h h' → VK K h' y e → VK K h' z f → (∀ h'', Ext h' h'' → J (p e f) h'') → F (y.1, y.2.1, y.2.2.1, y.2.2.2) (z.1, z.2.1, z.2.2.1, z.2.2.2) h' J)
    (H : ∀ h', Ext h h' → Q (sideV p es) h') :
    loop (fun (s0 : Int) h0 (K0 : Int → Heap → Prop) =>
     iteB (decide (s0 < ((s.len : Nat) : Int))) (
      idxS s (IntKind.wrap .i64 (s0 - 1)) 4 fun a =>
      loadS C_bool_bool_sl_sl 4 a h0 fun v =>
      idxS s s0 4 fun a_1 =>
      loadS C_bool_bool_sl_sl 4 a_1 h0 fun v_1 =>
      F (v.1, v.2.1, v.2.2.1, v.2.2.2) (v_1.1, v_1.2.1, v_1.2.2.1, v_1.2.2.2) h0 fun v_2 h0u1 =>
      iteB (!v_2) (Q false h0u1) (
       Let (IntKind.wrap .i64 (s0 + 1) : Int) fun i =>
       K0 i h0u1)
     ) (Q true h0)) 1 h := by
  have hlen := v.len
  refine loop.inv (fun t h' => ∃ i : Nat, t = (i : Int) + 1 ∧ i + 1 ≤ es.length ∧ sideV p es = sideV p (es.drop i) ∧ Ext h h') (fun t _ => es.length - t.toNat) ⟨0, rfl, by omega, rfl, Keep.refl _ _⟩ ?_
  rintro t h1 ⟨i, rfl, hi, hs, e1⟩
  refine ⟨fun hlt => ?_, fun hge => ?_⟩
  · have hlt := of_decide_eq_true hlt
    have hi' : i + 1 < es.length := by omega
    rw [sideV_drop p es i hi'] at hs
    rw [show IntKind.wrap .i64 ((i : Int) + 1 - 1) = (i : Int) by rw [w64 (by omega) (by omega)]; omega]
    refine (v.ext e1).ld (j := i) rfl (by omega) fun y hy => (v.ext e1).ld (j := i + 1) (by omega) hi' fun z hz => hF y z _ _ h1 _ (List.getElem_mem (by omega)) (List.getElem_mem hi') e1 hy hz fun h2 e2 => ⟨fun hb => ?_, fun hb => ?_⟩
    · have hb : p (es[i]'(by omega)) es[i+1] = false := by simpa using hb
      rw [hb, Bool.false_and] at hs
      rw [← hs]; exact H _ (e1.trans e2)
    · have hb : p (es[i]'(by omega)) es[i+1] = true := by simpa using hb
      rw [hb, Bool.true_and] at hs
      rintro x hx
      rw [w64 (by omega) (by omega)] at hx
      exact ⟨⟨i + 1, by omega, by omega, hs, e1.trans e2⟩, by omega⟩
  · have hge := of_decide_eq_false hge
    have hd : es.drop i = [es[i]'(by omega)] := by
      rw [List.drop_eq_getElem_cons (by omega : i < es.length), List.drop_eq_nil_of_le (by omega)]
    rw [hd] at hs
    have := H _ e1
    rw [hs] at this
    exact this
theorem sideSame_spec {Q : Bool → Heap → Prop} (v : VL K h s es) (hl : es.length ≤ 1000) (h1 : 1 ≤ es.length) (hs : ∀ e ∈ es, szQ e.2 ≤ 1000) (h0 : 0 < h.size) (H : ∀ h', Ext h h' → Q (sideV sameV es) h') : eval_side__eval_same s h Q :=
  side_loop (F := eval_same) v hl h1 (fun y z e f h' J he hf e1 hy hz hJ => same_spec hy hz (by have := hs e he; have := hs f hf; omega) (Nat.lt_of_lt_of_le h0 e1.size) hJ) H
def distV : List EV → List EV → Bool
  | _, [] => true
  | pre, e :: r => !(pre.any fun f => sameV e f) && distV (pre ++ [e]) r
theorem VL.take {i : Nat} (v : VL K h s es) (hi : i ≤ es.length) {r : Sl} (ha : r.a = s.a) (hr : r.len = i) : VL K h r (es.take i) := by
  obtain ⟨ys, h1, h2⟩ := v.row
  refine ⟨ys.take i, ⟨by rw [hr, List.length_take]; have := h2.length; omega, fun j hj => ?_⟩, ?_⟩
  · rw [List.length_take] at hj
    obtain ⟨a, h3, h4⟩ := h1.cells j (by omega)
    exact ⟨a, by rw [ha]; exact h3, by rw [List.getElem_take]; exact h4⟩
  · clear h1 v hi hr ha
    induction h2 generalizing i with
    | nil => simpa using All2.nil
    | cons a b ih =>
      cases i with
      | zero => exact .nil
      | succ i => exact .cons a ih
theorem slice_to {j : Nat} {k : Sl → Prop} (v : VL K h s es) (hc : s.len ≤ s.cap) (hj : j ≤ es.length) (H : ∀ r : Sl, r.a = s.a ∧ r.len = j → k r) : sliceOf s none (some (j : Int)) none 4 k := by
  have := v.len
  simp only [sliceOf, Option.getD_none, Option.getD_some]
  refine ⟨by omega, ⟨by omega, .inr (by omega)⟩, by omega, ?_⟩
  refine H _ ⟨?_, by simp⟩
  dsimp only
  split
  · rfl
  · have : (fun x : Addr => x.add (Int.toNat 0 * 4)) = id := by funext x; exact addr_add_zero x
    rw [this]; simp
theorem slice_from1 {k : Sl → Prop} {e : EV} {r : List EV} (v : VL K h s (e :: r)) (hc : s.len ≤ s.cap) (H : ∀ t : Sl, VL K h t r → k t) : sliceOf s (some 1) none none 4 k := by
  have hl := v.len
  simp only [List.length_cons] at hl
  simp only [sliceOf, Option.getD_none, Option.getD_some]
  refine ⟨by omega, ⟨by omega, .inl (by trivial)⟩, by omega, H _ ?_⟩
  obtain ⟨ys, h1, h2⟩ := v.row
  cases h2 with
  | cons q1 q2 =>
    rename_i y ys
    refine ⟨ys, ⟨by dsimp only; rw [q2.length]; omega, fun i hi => ?_⟩, q2⟩
    obtain ⟨a, h3, h4⟩ := h1.cells (i + 1) (by simpa using hi)
    refine ⟨a.add 4, ?_, ?_⟩
    · dsimp only
      have hcap : s.cap ≠ 1 ∨ s.cap = 1 := by omega
      rcases hcap with hcap | hcap
      · rw [if_neg (by omega), h3]; rfl
      · exfalso
        have := q2.length
        omega
    · have e : (a.add 4).add (i * 4) = a.add ((i + 1) * 4) := by
        simp only [Addr.add]
        by_cases hz : i = 0
        · subst hz; simp
        · rw [if_neg (by omega), if_neg (by omega), if_neg (by omega)]
          simp only [Addr.mk.injEq, and_true, true_and]
          omega
      rw [e]
      simpa using h4
end Go.Sh

namespace Go.Sh
open Go Go.Lift
theorem Env.tail {h0 h : Heap} {x : Nat × List Value} {L : List (Nat × List Value)} (q : Env h0 h (x :: L)) : Env h0 h L :=
  ⟨q.ext, fun y hy => q.ge y (List.mem_cons_of_mem _ hy), (List.nodup_cons.1 q.nd).2, fun y hy => q.at' y (List.mem_cons_of_mem _ hy)⟩
variable {K : Nat → Prop} {h : Heap} {s : Sl} {es : List EV}
theorem distV_cons (pre : List EV) (e : EV) (r : List EV) : distV pre (e :: r) = (!(pre.any fun f => sameV e f) && distV (pre ++ [e]) r) := rfl
theorem distinct_spec {Q : Bool → Heap → Prop} (v : VL K h s es) (hc : s.len ≤ s.cap) (hl : es.length ≤ 1000) (hs : ∀ e ∈ es, szQ e.2 ≤ 1000) (h0 : 0 < h.size) (H : ∀ h', Ext h h' → Q (distV [] es) h') : eval_distinct s h Q := by
  have hlen := v.len
  refine loop.inv (fun t h' => ∃ i : Nat, t = (i : Int) ∧ i ≤ es.length ∧ distV [] es = distV (es.take i) (es.drop i) ∧ Ext h h') (fun t _ => es.length - t.toNat) ⟨0, rfl, by omega, by simp, Keep.refl _ _⟩ ?_
  rintro t h1 ⟨i, rfl, hi, hd, e1⟩
  refine ⟨fun hlt => ?_, fun hge => ?_⟩
  · have hlt := of_decide_eq_true hlt
    have hi' : i < es.length := by omega
    rw [List.drop_eq_getElem_cons hi', distV_cons] at hd
    refine (v.ext e1).ld (j := i) rfl hi' fun y hy => ?_
    refine Env.start.new fun b h2 q2 => q2.storeS0 rfl fun h3 q3 => ?_
    have e3 := e1.trans q3.ext
    refine slice_to (v.ext e3) hc hi fun r hr => ?_
    have hm := List.getElem_mem hi'
    refine find_loop (F := fun y h J => eval_distinct_c1 y ⟨b, 0, none⟩ h J) (p := fun f => sameV es[i] f) ((v.ext e3).take hi hr.1 hr.2) (by simp; omega) (fun z f h4 J hf e4 hz hJ => ?_) fun j h4 e4 hj => ?_
    · refine mem_ext fun h5 e5 => ?_
      have q5 := q3.more (e4.trans e5)
      refine q5.loadS (x := y) 0 0 rfl rfl rfl rfl ?_
      have hf' := List.mem_of_mem_take hf
      exact same_spec ((hy.ext q3.ext).ext (e4.trans e5)) (hz.ext e5) (by have := hs _ hm; have := hs _ hf'; omega) (Nat.lt_of_lt_of_le h0 (e3.trans (e4.trans e5)).size) fun h6 e6 => hJ h6 (e5.trans e6)
    · rw [hj]
      refine ⟨fun hb => ?_, fun hb => ?_⟩
      · rw [hb] at hd
        simp only [Bool.not_true, Bool.false_and] at hd
        have := H _ (e3.trans e4)
        rwa [hd] at this
      · rw [hb] at hd
        simp only [Bool.not_false, Bool.true_and] at hd
        rw [w64 (by omega) (by omega)]
        refine ⟨⟨i + 1, by omega, by omega, ?_, e3.trans e4⟩, by omega⟩
        rw [hd, List.take_succ_eq_append_getElem hi']
  · have hge := of_decide_eq_false hge
    have : i = es.length := by omega
    subst this
    rw [List.drop_length] at hd
    have := H _ e1
    rw [hd] at this
    exact this
theorem backL_inv {α : Type} {c0 : Addr} {sz : Nat} {ld : Addr → Heap → (α → Prop) → Prop} {Y : Int → α → Heap → (Heap → Prop) → Prop} {R : Heap → Prop} {h : Heap} {s : Sl} (hc : cell? h c0 = some (Sl.toV s)) (I : Nat → Heap → Prop) (h0 : I s.len h) (hs : s.len ≤ 1000000)
    (hb : ∀ (k : Nat) h' (J : Heap → Prop), k < s.len → I (k + 1) h' → (∀ h'', I k h'' → J h'') → Lift.load Sl.toV c0 h' fun s => idxS s (k : Int) sz fun a => ld a h' fun x => Y (k : Int) x h' J)
    (hR : ∀ h', I 0 h' → R h') : backL c0 sz ld Y R h := by
  refine ⟨s, hc, loop.inv (fun i h' => ∃ k : Nat, i = (k : Int) - 1 ∧ k ≤ s.len ∧ I k h') (fun i _ => (i + 1).toNat) ⟨s.len, ?_, Nat.le_refl _, h0⟩ ?_⟩
  · rw [w64 (by omega) (by omega)]
  · rintro i h' ⟨k, rfl, hk, hI⟩
    refine ⟨fun g => ?_, fun g => ?_⟩
    · have g := of_decide_eq_true g
      obtain ⟨k, rfl⟩ : ∃ k', k = k' + 1 := ⟨k - 1, by omega⟩
      have e : ((k + 1 : Nat) : Int) - 1 = (k : Int) := by omega
      rw [e, w64 (n := (k : Int) - 1) (by omega) (by omega)]
      exact hb k h' _ (by omega) hI fun h'' hI' => ⟨⟨k, rfl, by omega, hI'⟩, by omega⟩
    · have g := of_decide_eq_false g
      have : k = 0 := by omega
      subst this
      exact hR h' hI
def implV : List EV → Bool
  | [] => false
  | [a] => a.1
  | a :: b :: r => !a.1 || implV (b :: r)
theorem implV_drop (es : List EV) (i : Nat) (hi : i + 1 < es.length) : implV (es.drop i) = (!(es[i]'(by omega)).1 || implV (es.drop (i + 1))) := by
  rw [List.drop_eq_getElem_cons (by omega : i < es.length), List.drop_eq_getElem_cons hi]
  rfl
theorem implies_spec {Q : Bool → Heap → Prop} (v : VL K h s es) (hc : s.len ≤ s.cap) (hl : es.length ≤ 1000) (h1 : 1 ≤ es.length) (H : ∀ h', Ext h h' → Q (implV es) h') : eval_implies s h Q := by
  have hlen := v.len
  have hw : IntKind.wrap .i64 (((s.len : Nat) : Int) - 1) = ((es.length - 1 : Nat) : Int) := by rw [w64 (by omega) (by omega)]; omega
  unfold eval_implies
  rw [hw]
  refine v.at (j := es.length - 1) rfl (by omega) fun a y hy hv => ⟨_, cell_t hy, ?_⟩
  refine Env.start.new fun b h2 q2 => q2.store0 0 rfl (by decide) fun h3 q3 => ?_
  refine slice_to (v.ext q3.ext) hc (by omega) fun r hr => ?_
  refine q3.new fun c h4 q4 => ⟨_, rfl, mem_ext fun h5 e5 => ?_⟩
  have q5 := q4.more e5
  have hlast : implV (es.drop (es.length - 1)) = y.1 := by
    rw [List.drop_eq_getElem_cons (by omega : es.length - 1 < es.length), List.drop_eq_nil_of_le (by omega)]
    exact hv.t.symm
  refine backL_inv (s := r) (by rw [(q5.blk 0 rfl).cell]; rfl) (fun k h' => k ≤ es.length - 1 ∧ Env h h' [(c, [Sl.toV r]), (b, [Value.bool (implV (es.drop k))])]) ?_ (by omega) (fun k h' J hk hI hJ => ?_) fun h' hI => ?_
  · rw [hr.2, hlast]; exact ⟨Nat.le_refl _, q5⟩
  · obtain ⟨_, q⟩ := hI
    refine q.load (x := r) 0 0 rfl rfl rfl ?_
    refine (((v.ext q.ext).take (i := es.length - 1) (by omega) hr.1 hr.2)).ld (j := k) rfl (by rw [List.length_take]; omega) fun z hz => ?_
    rw [List.getElem_take] at hz
    refine q.new fun d h6 q6 => q6.storeS0 rfl fun h7 q7 => ?_
    have hk2 : k + 1 < es.length := by omega
    have hi := implV_drop es k hk2
    rw [← hz.t] at hi
    refine q7.load (x := z.1) 0 0 rfl rfl rfl ⟨fun g => ?_, fun g => ?_⟩
    · refine q7.store 2 0 rfl rfl Nat.zero_lt_one fun h8 q8 => hJ h8 ⟨by omega, ?_⟩
      have : implV (es.drop k) = true := by rw [hi, g]; rfl
      rw [this]; exact q8.tail
    · have hz1 : z.1 = true := by simpa using g
      refine q7.load (x := implV (es.drop (k + 1))) 2 0 rfl rfl rfl ?_
      refine q7.store 2 0 rfl rfl Nat.zero_lt_one fun h8 q8 => hJ h8 ⟨by omega, ?_⟩
      have : implV (es.drop k) = implV (es.drop (k + 1)) := by rw [hi, hz1]; rfl
      rw [this]; exact q8.tail
  · obtain ⟨_, q⟩ := hI
    refine q.load (x := implV es) 1 0 rfl rfl rfl ?_
    exact H h' q.ext
def xorV (es : List EV) : Bool := es.foldl (fun o e => !(o == e.1)) false
theorem xor_spec {Q : Bool → Heap → Prop} (v : VL K h s es) (hl : es.length ≤ 1000) (H : ∀ h', Ext h h' → Q (xorV es) h') :
      loop (fun (s0 : Bool × Int) h0u2 (K0 : (Bool × Int) → Heap → Prop) =>
       iteB (decide (s0.2 < ((s.len : Nat) : Int))) (
        idxS s s0.2 4 fun a_1 =>
        loadS C_bool_bool_sl_sl 4 a_1 h0u2 fun v_3 =>
        mem h0u2 fun h0u3 =>
        Let ((!(s0.1 == v_3.1)) : Bool) fun odd =>
        K0 (odd, IntKind.wrap .i64 (s0.2 + 1)) h0u3
       ) (Q s0.1 h0u2)) (false, 0) h := by
  have hlen := v.len
  refine loop.inv (fun t h' => ∃ i : Nat, t.2 = (i : Int) ∧ i ≤ es.length ∧ t.1 = xorV (es.take i) ∧ Ext h h') (fun t _ => es.length - t.2.toNat) ⟨0, rfl, by omega, rfl, Keep.refl _ _⟩ ?_
  rintro ⟨o, t⟩ h1 ⟨i, ht, hi, ho, e1⟩
  dsimp only at ht ho
  subst ht ho
  refine ⟨fun hlt => ?_, fun hge => ?_⟩
  · have hlt := of_decide_eq_true hlt
    dsimp only at hlt
    have hi' : i < es.length := by omega
    refine (v.ext e1).ld (j := i) rfl hi' fun y hy => mem_ext fun h2 e2 => ?_
    rintro x rfl
    dsimp only
    rw [w64 (by omega) (by omega)]
    refine ⟨⟨i + 1, by omega, by omega, ?_, e1.trans e2⟩, by omega⟩
    rw [List.take_succ_eq_append_getElem hi', hy.t]
    unfold xorV
    rw [List.foldl_append]
    rfl
  · have hge := of_decide_eq_false hge
    dsimp only at hge
    have : i = es.length := by omega
    subst this
    rw [List.take_length]
    exact H _ e1
end Go.Sh

namespace Go.Sh
open Go Go.Lift
def MF (h : Heap) (mp : Nat) (g : Int → Option FnV) : Prop := ∃ f : List (Int × FnV), mapEs .i64 h (some mp) (vals FnV.toV f) ∧ ∀ k, f.lookup k = g k
theorem MF.lt {h : Heap} {mp : Nat} {g : Int → Option FnV} (p : MF h mp g) : mp < h.size := by
  obtain ⟨f, ⟨es, c, h1, h2⟩, h3⟩ := p
  exact (Array.getElem?_eq_some_iff.1 h1).1
theorem MF.look {h : Heap} {mp : Nat} {g : Int → Option FnV} (p : MF h mp g) {key : Int} {v : FnV} {k : FnV × Bool → Prop} (hg : g key = some v) (K : k (v, true)) : lookM .i64 FnV.toV FnV.nil (some mp) key h k := by
  obtain ⟨f, h1, h2⟩ := p
  refine ⟨f, _, h1, rfl, ?_⟩
  rw [h2 key, hg]; exact K
theorem MF.set {h0 h : Heap} {mp : Nat} {g : Int → Option FnV} (p : MF h mp g) (e : Ext h0 h) (hm : h0.size ≤ mp) {key : Int} {v : FnV} {k : Heap → Prop} (K : ∀ h', MF h' mp (fun j => if j = key then some v else g j) → Ext h0 h' → k h') : setM .i64 FnV.toV (some mp) key v h k := by
  have hlt := p.lt
  obtain ⟨f, h1, h2⟩ := p
  have kk : ∀ ob, Keep (some mp) h (h.setIfInBounds mp ob) := fun ob => ⟨by simp, fun b hb hne => by rw [Array.getElem?_setIfInBounds_ne (fun e => hne (by rw [e]))]⟩
  refine ⟨mp, f, rfl, h1, fun es c he => K _ ⟨updM f key v, ⟨es, c, by simp [hlt], he⟩, fun j => ?_⟩ (e.fresh hm (kk _))⟩
  rw [lookup_updM, h2]
  by_cases e : j = key
  · subst e; simp
  · have : (j == key) = false := by simpa using e
    rw [this]; simp [e]
theorem MF.new {h : Heap} {k : Option Nat → Heap → Prop} (K : ∀ mp h', MF h' mp (fun _ => none) → Ext h h' → h.size ≤ mp → k (some mp) h') : newM h k :=
  K _ _ ⟨[], ⟨#[], 0, by simp, Ents.nil⟩, fun _ => rfl⟩ (Ext.push _ _) (Nat.le_refl _)
def ordV (op : Int) (a b : EV) : Bool := if op = 14 then decide (cmpR a.2 b.2 < 0) else if op = 15 then decide (cmpR a.2 b.2 ≤ 0) else if op = 16 then decide (cmpR a.2 b.2 > 0) else decide (cmpR a.2 b.2 ≥ 0)
variable {K : Nat → Prop} {h : Heap} {s : Sl} {es : List EV}
theorem order_spec {op : Int} (ho : 14 ≤ op ∧ op ≤ 17) {Q : Bool → Heap → Prop} (v : VL K h s es) (hl : es.length ≤ 1000) (h1 : 1 ≤ es.length) (hs : ∀ e ∈ es, szQ e.2 ≤ 1000) (h0 : 0 < h.size) (H : ∀ h', Ext h h' → Q (sideV (ordV op) es) h') :
    eval_order op h fun v_6 h0u6 => eval_side s v_6 h0u6 Q := by
  refine MF.new fun mp h1' m1 e1 hm => m1.set e1 hm fun h2 m2 e2 => m2.set e2 hm fun h3 m3 e3 => m3.set e3 hm fun h4 m4 e4 => m4.set e4 hm fun h5 m5 e5 => ?_
  clear m1 m2 m3 m4 e1 e2 e3 e4
  -- whichever it is
  have go : ∀ (f : FnV), (∀ (c : Int) (h' : Heap) (J : Bool → Heap → Prop) (a b : EV), c = cmpR a.2 b.2 → J (ordV op a b) h' →
        (f = FnV.mk 187 [] [] ∧ eval_order_c1 c h' J) ∨ (f = FnV.mk 188 [] [] ∧ eval_order_c2 c h' J) ∨ (f = FnV.mk 189 [] [] ∧ eval_order_c3 c h' J) ∨ (f = FnV.mk 190 [] [] ∧ eval_order_c4 c h' J)) →
      new [Value.nilFunc] h5 fun so h0u5 => Lift.store so (FnV.toV f) h0u5 fun h0u6 => eval_side s (FnV.mk 191 [] [Value.pointer (some so)]) h0u6 Q := by
    intro f hf
    refine Env.start.new fun b h6 q6 => q6.store0 0 rfl Nat.zero_lt_one fun h7 q7 => ?_
    have e7 := e5.trans q7.ext
    refine side_loop (F := fun y z h J => dyn (fun (K0u1 : Bool → Heap → Prop) => (FnV.mk 191 [] [Value.pointer (some (⟨b, 0, none⟩ : Addr))] = FnV.mk 174 [] [] ∧ eval_same y z h K0u1) ∨ (∃ (dc5u0 : Addr), FnV.mk 191 [] [Value.pointer (some (⟨b, 0, none⟩ : Addr))] = FnV.mk 191 [] [Value.pointer (some dc5u0)] ∧ eval_order_c5 y z dc5u0 h K0u1)) J)
      (v.ext e7) hl h1 (fun y z e g h8 J he hg e8 hy hz hJ => ?_) fun h8 e8 => H h8 (e7.trans e8)
    refine .inr ⟨_, rfl, mem_ext fun h9 e9 => ?_⟩
    have q9 := q7.more (e8.trans e9)
    refine q9.load (x := f) 0 0 rfl rfl rfl ?_
    refine CmpR_spec (hy.n.rq.ext e9) (hz.n.rq.ext e9) (by have := hs e he; have := hs g hg; omega) (Nat.lt_of_lt_of_le h0 (e7.trans (e8.trans e9)).size) fun h10 e10 => ⟨?_, ?_⟩
    · rw [((q9.more e10).blk 0 rfl).cell]; rfl
    · exact hf _ h10 J e g rfl (hJ h10 (e9.trans e10))
  rcases (by omega : op = 14 ∨ op = 15 ∨ op = 16 ∨ op = 17) with rfl | rfl | rfl | rfl
  · exact m5.look (v := FnV.mk 187 [] []) rfl (go _ fun c h' J a b hc hJ => .inl ⟨rfl, by subst hc; exact hJ⟩)
  · exact m5.look (v := FnV.mk 188 [] []) rfl (go _ fun c h' J a b hc hJ => .inr (.inl ⟨rfl, by subst hc; exact hJ⟩))
  · exact m5.look (v := FnV.mk 189 [] []) rfl (go _ fun c h' J a b hc hJ => .inr (.inr (.inl ⟨rfl, by subst hc; exact hJ⟩)))
  · exact m5.look (v := FnV.mk 190 [] []) rfl (go _ fun c h' J a b hc hJ => .inr (.inr (.inr ⟨rfl, by subst hc; exact hJ⟩)))
def logicV (op : Int) (es : List EV) : Bool :=
  if op = 6 then !(es.headD (false, 0)).1 else if op = 7 then !(es.any fun e => !e.1) else if op = 8 then es.any fun e => e.1 else if op = 9 then xorV es else if op = 10 then implV es else if op = 12 then sideV sameV es else if op = 13 then distV [] es else sideV (ordV op) es
theorem logic_spec {op : Int} {Q : Bool → Heap → Prop} (ho : 6 ≤ op ∧ op ≤ 17 ∧ op ≠ 11) (v : VL K h s es) (hc : s.len ≤ s.cap) (hl : es.length ≤ 1000) (h1 : 1 ≤ es.length) (hs : ∀ e ∈ es, szQ e.2 ≤ 1000) (h0 : 0 < h.size) (H : ∀ h', Ext h h' → Q (logicV op es) h') : eval_logic op s h Q := by
  unfold logicV at H
  refine ⟨fun g => ?_, fun g => ?_⟩
  · have g : op = 6 := by simpa using g
    rw [if_pos g] at H
    refine v.at (j := 0) rfl (by omega) fun a y hy hv => ⟨_, cell_t hy, ?_⟩
    have : es.headD (false, 0) = es[0] := by cases es with | nil => simp at h1 | cons e r => rfl
    rw [hv.t, ← this]
    exact H h (Keep.refl _ _)
  have g6 : ¬ op = 6 := by simpa using g
  rw [if_neg g6] at H
  refine ⟨fun g => ?_, fun g => ?_⟩
  · have g : op = 7 := by simpa using g
    rw [if_pos g] at H
    exact anyN_spec v hl H
  have g7 : ¬ op = 7 := by simpa using g
  rw [if_neg g7] at H
  refine ⟨fun g => ?_, fun g => ?_⟩
  · have g : op = 8 := by simpa using g
    rw [if_pos g] at H
    exact anyT_spec v hl H
  have g8 : ¬ op = 8 := by simpa using g
  rw [if_neg g8] at H
  refine ⟨fun g => ?_, fun g => ?_⟩
  · have g : op = 9 := by simpa using g
    rw [if_pos g] at H
    exact xor_spec v hl H
  have g9 : ¬ op = 9 := by simpa using g
  rw [if_neg g9] at H
  refine ⟨fun g => ?_, fun g => ?_⟩
  · have g : op = 10 := by simpa using g
    rw [if_pos g] at H
    exact implies_spec v hc hl h1 H
  have g10 : ¬ op = 10 := by simpa using g
  rw [if_neg g10] at H
  refine ⟨fun g => ?_, fun g => ?_⟩
  · have g : op = 12 := by simpa using g
    rw [if_pos g] at H
    exact sideSame_spec v hl h1 hs h0 H
  have g12 : ¬ op = 12 := by simpa using g
  rw [if_neg g12] at H
  refine ⟨fun g => ?_, fun g => ?_⟩
  · have g : op = 13 := by simpa using g
    rw [if_pos g] at H
    exact distinct_spec v hc hl hs h0 H
  have g13 : ¬ op = 13 := by simpa using g
  rw [if_neg g13] at H
  exact order_spec (by omega) v hl h1 hs h0 H
end Go.Sh

/-
  Laws that the proof of this claim's statement leans on, each proved under the conditions that it states.
-/
import Derived.Test.YtenofghlgiimeaaGreatDoorSh
import Derived.Test.YtenofghlgiimeaaGreatDoorFwE
set_option linter.unusedVariables false
set_option linter.unusedSimpArgs false
namespace Go.Sh
open Go Go.Lift
theorem mem_ext {h : Heap} {k : Heap → Prop} (K : ∀ h', Ext h h' → k h') : mem h k := fun h' e => K h' ⟨e.size, fun b hb _ => e.same b hb⟩
theorem loop_end {σ : Type} {body : σ → Heap → (σ → Heap → Prop) → Prop} {s : σ} {h : Heap} (H : ∀ K, body s h K) : loop body s h := by
  refine loop.inv (fun s' h' => s' = s ∧ h' = h) (fun _ _ => 0) ⟨rfl, rfl⟩ ?_
  intro s' h' hh
  rw [hh.1, hh.2]
  exact H _
theorem iteF {b : Bool} {A B : Prop} (hb : b = false) (H : B) : iteB b A B := by subst hb; exact ⟨nofun, fun _ => H⟩
theorem iteT {b : Bool} {A B : Prop} (hb : b = true) (H : A) : iteB b A B := by subst hb; exact ⟨fun _ => H, nofun⟩
theorem not_lt_zero {s : Sl} (h : s.len = 0) : decide ((0 : Int) < ((s.len : Nat) : Int)) = false := by rw [h]; rfl
def Blk (h : Heap) (b : Nat) (cs : List Value) : Prop := ∃ T, h[b]? = some (.cells cs.toArray T (0, 0))
structure Env (h0 h : Heap) (L : List (Nat × List Value)) : Prop where
  ext : Ext h0 h
  ge : ∀ x ∈ L, h0.size ≤ x.1
  nd : (L.map (·.1)).Nodup
  at' : ∀ x ∈ L, Blk h x.1 x.2
variable {h0 h : Heap} {L : List (Nat × List Value)}
theorem Env.start : Env h h [] := ⟨Keep.refl _ _, by simp, by simp, by simp⟩
theorem Blk.lt {b : Nat} {cs : List Value} (q : Blk h b cs) : b < h.size := by
  obtain ⟨T, hq⟩ := q
  exact (Array.getElem?_eq_some_iff.1 hq).1
theorem Env.more {h' : Heap} (q : Env h0 h L) (e : Ext h h') : Env h0 h' L :=
  ⟨q.ext.trans e, q.ge, q.nd, fun x hx => by
    obtain ⟨T, hT⟩ := q.at' x hx
    exact ⟨T, by rw [e.same x.1 (Blk.lt ⟨T, hT⟩) (by simp)]; exact hT⟩⟩
theorem Env.mem (q : Env h0 h L) {k : Heap → Prop} (K : ∀ h', Env h0 h' L → k h') : mem h k := mem_ext fun h' e => K h' (q.more e)
theorem Env.new (q : Env h0 h L) {cs : List Value} {k : Addr → Heap → Prop} (K : ∀ b h', Env h0 h' ((b, cs) :: L) → k ⟨b, 0, none⟩ h') : new cs h k := by
  intro T
  refine K h.size _ ⟨q.ext.trans (Ext.push _ _), fun x hx => ?_, ?_, fun x hx => ?_⟩
  · rcases List.mem_cons.1 hx with rfl | hx
    · exact q.ext.size
    · exact q.ge x hx
  · rw [List.map_cons, List.nodup_cons]
    refine ⟨fun hm => ?_, q.nd⟩
    obtain ⟨x, hx, he⟩ := List.mem_map.1 hm
    have := (q.at' x hx).lt
    dsimp only at he
    omega
  · rcases List.mem_cons.1 hx with rfl | hx
    · exact ⟨T, Array.getElem?_push_size⟩
    · obtain ⟨T', hT⟩ := q.at' x hx
      exact ⟨T', by rw [(Ext.push h _).same x.1 (Blk.lt ⟨T', hT⟩) (by simp)]; exact hT⟩
theorem Env.blk (q : Env h0 h L) (n : Nat) {b : Nat} {cs : List Value} (hn : L[n]? = some (b, cs)) : Blk h b cs := q.at' _ (List.mem_of_getElem? hn)
theorem Blk.cell {b i : Nat} {cs : List Value} (q : Blk h b cs) : cell? h ⟨b, i, none⟩ = cs[i]? := by
  obtain ⟨T, hT⟩ := q
  unfold cell?
  dsimp only
  rw [hT]
  simp
theorem Env.load {α : Type} {toV : α → Value} {x : α} {k : α → Prop} (q : Env h0 h L) (n i : Nat) {a : Addr} {b : Nat} {cs : List Value} (ha : a = ⟨b, i, none⟩) (hn : L[n]? = some (b, cs)) (hi : cs[i]? = some (toV x)) (K : k x) : Lift.load toV a h k := by
  subst ha
  exact ⟨x, by rw [(q.blk n hn).cell]; exact hi, K⟩
theorem Env.cells (q : Env h0 h L) (n i m : Nat) {a : Addr} {b : Nat} {cs ds : List Value} (ha : a = ⟨b, i, none⟩) (hn : L[n]? = some (b, cs)) (hd : (cs.drop i).take m = ds) (hm : ds.length = m) : cells? h a m 0 = some ds := by
  subst ha
  have := cells?_mk (h := h) (a := ⟨b, i, none⟩) ds 0 (fun j hj => by
    rw [Nat.zero_add, addr_add _ _ rfl]
    dsimp only
    rw [(q.blk n hn).cell, ← List.getElem?_eq_getElem hj, ← hd, List.getElem?_take, List.getElem?_drop]
    rw [if_pos (by omega)])
  rw [hm] at this
  exact this
theorem Env.loadS {α : Type} {toC : α → List Value} {x : α} {k : α → Prop} (q : Env h0 h L) (n i : Nat) {m : Nat} {a : Addr} {b : Nat} {cs : List Value} (ha : a = ⟨b, i, none⟩) (hn : L[n]? = some (b, cs)) (hd : (cs.drop i).take m = toC x) (hm : (toC x).length = m) (K : k x) : loadS toC m a h k :=
  ⟨x, q.cells n i m ha hn hd hm, K⟩
theorem Env.upd {h' : Heap} (q : Env h0 h L) (n : Nat) {b : Nat} {cs ds : List Value} (hn : L[n]? = some (b, cs)) (k : Keep (some b) h h') (hb : Blk h' b ds) : Env h0 h' (L.set n (b, ds)) := by
  have hlt : n < L.length := (List.getElem?_eq_some_iff.1 hn).1
  have hLn : L[n] = (b, cs) := (List.getElem?_eq_some_iff.1 hn).2
  have hmap : (L.set n (b, ds)).map (·.1) = L.map (·.1) := by
    rw [List.map_set]
    apply List.ext_getElem?
    intro i
    rw [List.getElem?_set]
    split
    · rename_i e; subst e; simp [hlt, hLn]
    · rfl
  have hge : h0.size ≤ b := q.ge (b, cs) (List.mem_of_getElem? hn)
  refine ⟨q.ext.fresh hge k, fun x hx => ?_, by rw [hmap]; exact q.nd, fun x hx => ?_⟩
  · rcases List.mem_or_eq_of_mem_set hx with hx | rfl
    · exact q.ge x hx
    · exact hge
  · obtain ⟨i, hi, hx⟩ := List.mem_iff_getElem.1 hx
    have hi' : i < L.length := by simpa using hi
    by_cases e : n = i
    · subst e
      simp at hx
      subst hx
      exact hb
    · rw [List.getElem_set_ne e] at hx
      subst hx
      obtain ⟨T, hT⟩ := q.at' L[i] (List.getElem_mem hi')
      have hne : L[i].1 ≠ b := by
        intro he
        have hi2 : i < (L.map (·.1)).length := by simpa using hi'
        have hn2 : n < (L.map (·.1)).length := by simpa using hlt
        have h1 : (L.map (·.1))[i] = (L.map (·.1))[n] := by simp [he, hLn]
        rcases Nat.lt_or_gt_of_ne e with hlt | hlt
        · exact (List.pairwise_iff_getElem.1 q.nd n i hn2 hi2 hlt) h1.symm
        · exact (List.pairwise_iff_getElem.1 q.nd i n hi2 hn2 hlt) h1
      exact ⟨T, by rw [k.same _ (Blk.lt ⟨T, hT⟩) (by simpa using hne)]; exact hT⟩
theorem Env.store {v : Value} {k : Heap → Prop} (q : Env h0 h L) (n i : Nat) {a : Addr} {b : Nat} {cs : List Value} (ha : a = ⟨b, i, none⟩) (hn : L[n]? = some (b, cs)) (hi : i < cs.length) (K : ∀ h', Env h0 h' (L.set n (b, cs.set i v)) → k h') : Lift.store a v h k := by
  subst ha
  have qb := q.blk n hn
  obtain ⟨T, hT⟩ := qb
  have qb : Blk h b cs := ⟨T, hT⟩
  refine ⟨⟨cs[i], by rw [qb.cell]; exact List.getElem?_eq_getElem hi⟩, frozen_none hT, K _ (q.upd n hn (Keep.setCell h ⟨b, i, none⟩ v) ⟨T, ?_⟩)⟩
  have := block_set (i := i) hT v
  simpa using this
theorem Env.store0 {v : Value} {k : Heap → Prop} {b : Nat} {cs : List Value} (q : Env h0 h ((b, cs) :: L)) (i : Nat) {a : Addr} (ha : a = ⟨b, i, none⟩) (hi : i < cs.length) (K : ∀ h', Env h0 h' ((b, cs.set i v) :: L) → k h') : Lift.store a v h k :=
  q.store 0 i ha rfl hi K
theorem Env.store1 {x : Nat × List Value} {v : Value} {k : Heap → Prop} {b : Nat} {cs : List Value} (q : Env h0 h (x :: (b, cs) :: L)) (i : Nat) {a : Addr} (ha : a = ⟨b, i, none⟩) (hi : i < cs.length) (K : ∀ h', Env h0 h' (x :: (b, cs.set i v) :: L) → k h') : Lift.store a v h k :=
  q.store 1 i ha rfl hi K
theorem Env.storeS {vs : List Value} {k : Heap → Prop} (q : Env h0 h L) (n : Nat) {a : Addr} {b : Nat} {cs : List Value} (ha : a = ⟨b, 0, none⟩) (hn : L[n]? = some (b, cs)) (hl : vs.length = cs.length) (K : ∀ h', Env h0 h' (L.set n (b, vs)) → k h') : storeS a vs h k := by
  subst ha
  obtain ⟨T, hT⟩ := q.blk n hn
  obtain ⟨c', h1, h2, _, h4, h5⟩ := setCells_block vs 0 0 h cs.toArray hT (by simp; omega)
  refine ⟨h5, K _ (q.upd n hn (setCells_keep ⟨b, 0, none⟩ vs 0 h) ⟨T, ?_⟩)⟩
  rw [h1]
  have : c' = vs.toArray := by
    apply Array.ext_getElem?
    intro i
    rcases Nat.lt_or_ge i vs.length with hi | hi
    · have := h4 i hi
      simp only [Nat.zero_add] at this
      rw [this]; simp [hi]
    · rw [Array.getElem?_eq_none (by rw [h2]; simp; omega), Array.getElem?_eq_none (by simpa using hi)]
  rw [this]
theorem Env.storeS0 {vs : List Value} {k : Heap → Prop} {b : Nat} {cs : List Value} (q : Env h0 h ((b, cs) :: L)) (hl : vs.length = cs.length) (K : ∀ h', Env h0 h' ((b, vs) :: L) → k h') : Lift.storeS ⟨b, 0, none⟩ vs h k :=
  q.storeS 0 rfl rfl hl K
end Go.Sh

namespace Go.Sh
open Go Go.Lift
variable {h0 h : Heap} {L : List (Nat × List Value)}
abbrev P0 : Int × Int × Sl × Sl × Sl × Sl × Sl := (0, 0, Sl.nil, Sl.nil, Sl.nil, Sl.nil, Sl.nil)
abbrev P0V : List Value := [Value.int .i64 0, Value.int .i64 0, Sl.toV Sl.nil, Sl.toV Sl.nil, Sl.toV Sl.nil, Sl.toV Sl.nil, Sl.toV Sl.nil]
theorem Env.drop {x : Nat × List Value} (q : Env h0 h (x :: L)) : Env h0 h L :=
  ⟨q.ext, fun y hy => q.ge y (List.mem_cons_of_mem _ hy), (List.nodup_cons.1 (by simpa using q.nd)).2, fun y hy => q.at' y (List.mem_cons_of_mem _ hy)⟩
theorem Env.none (q : Env h0 h L) : Env h0 h [] := ⟨q.ext, by simp, by simp, by simp⟩
theorem Env.mk0 {z : List Value} {bytes : Nat} {a b : Int} (q : Env h0 h L) {k : Sl → Heap → Prop} (ha : a = 0) (hb : b = 0) (K : ∀ s h', s.len = 0 → Env h0 h' L → k s h') : mkS z bytes a b h k := by
  subst ha hb
  exact ⟨⟨by omega, by omega, by omega⟩, fun T => K _ _ rfl (q.more (Ext.push _ _))⟩
theorem idx2uspec {f : Addr} {Q : Bool → Heap → Prop} (K : Q false h) : slices_ContainsFunc_int_int__cnf_Right_c2 Sl.nil f h Q := by
  unfold slices_ContainsFunc_int_int__cnf_Right_c2 slices_IndexFunc_int_int__cnf_Right_c2
  exact loop_end fun _ => iteF rfl K
theorem idx3uspec {f : Addr} {Q : Bool → Heap → Prop} (K : Q false h) : slices_ContainsFunc_api_Poly_api_Poly__cnf_Right_c3 Sl.nil f h Q := by
  unfold slices_ContainsFunc_api_Poly_api_Poly__cnf_Right_c3 slices_IndexFunc_api_Poly_api_Poly__cnf_Right_c3
  exact loop_end fun _ => iteF rfl K
theorem idx4uspec {f : Addr} {Q : Bool → Heap → Prop} (K : Q false h) : slices_ContainsFunc_api_Atom_api_Atom__cnf_Right_c4 Sl.nil f h Q := by
  unfold slices_ContainsFunc_api_Atom_api_Atom__cnf_Right_c4 slices_IndexFunc_api_Atom_api_Atom__cnf_Right_c4
  exact loop_end fun _ => iteF rfl K
theorem rowed_spec {p} {Q : FnV → Heap → Prop} (q : Env h0 h L) (K : ∀ f h', Env h0 h' L → Q f h') : cnf_rowed p h Q :=
  q.new fun _ _ q1 => K _ _ q1.drop
theorem Env.newM (q : Env h0 h L) {k : Option Nat → Heap → Prop} (K : ∀ m h', Env h0 h' L → k m h') : newM h k := K _ _ (q.more (Ext.push _ _))
theorem atomic_spec {p} {Q : FnV → Heap → Prop} (q : Env h0 h L) (K : ∀ f h', Env h0 h' L → Q f h') : cnf_atomic p h Q :=
  q.new fun _ _ q1 => q1.drop.newM fun _ _ q2 => q2.new fun _ _ q3 => q3.store0 0 rfl (by decide) fun _ q4 => K _ _ q4.drop
theorem cnf_spec {Q : Bool → Heap → Prop} (K : ∀ h', Ext h h' → Q true h') : cnf_Right P0 h Q := by
  refine Env.start.new fun p h1 q1 => q1.new fun l h2 q2 => q2.store0 0 rfl (by decide) fun h3 q3 => ?_
  have q3 := q3.drop
  clear q1 q2
  refine seq.dup (q3.load 0 0 rfl rfl rfl (iteF rfl (q3.load 0 1 rfl rfl rfl (iteF rfl (q3.load 0 4 rfl rfl rfl (idx2uspec ?_))))))
  refine iteF rfl (seq.cut (fun _ h' => Env h h' [(p, P0V)]) ?_ ?_)
  · refine q3.loadS (x := P0) 0 0 rfl rfl rfl rfl (q3.loadS (x := P0) 0 0 rfl rfl rfl rfl ?_)
    repeat' first
      | exact Env.cells (by assumption) 0 0 7 rfl rfl rfl rfl
      | exact Env.cells (by assumption) 1 0 7 rfl rfl rfl rfl
      | exact Env.cells (by assumption) 2 0 7 rfl rfl rfl rfl
      | exact Env.drop (by assumption)
      | exact Env.drop (Env.drop (by assumption))
      | refine rowed_spec (by assumption) fun _ _ _ => ?_
      | refine atomic_spec (by assumption) fun _ _ _ => ?_
      | refine Env.new (by assumption) fun _ _ _ => ?_
      | refine Env.store0 (by assumption) 0 rfl (by decide) fun _ _ => ?_
      | refine Env.store1 (by assumption) 0 rfl (by decide) fun _ _ => ?_
      | apply And.intro
  rintro ⟨r, a⟩ h4 q4
  refine seq.dup (q4.load 0 2 rfl rfl rfl (idx3uspec (iteT rfl (q4.load 0 3 rfl rfl rfl (idx4uspec ?_)))))
  exact K _ q4.ext
theorem clause_spec {Q : Sl × Sl × Sl × Sl × Sl × Sl × Sl × Int → Heap → Prop} (q : Env h0 h L)
    (K : ∀ w a b c h', w.len = 0 → a.len = 0 → b.len = 0 → c.len = 0 → Env h0 h' L → Q (Sl.nil, w, a, b, c, Sl.nil, Sl.nil, 0) h') : clause_New 0 h Q := by
  refine q.mem fun h1 q1 => ?_
  rintro n hn
  have hn : n = 0 := hn
  subst hn
  refine seq.cut (fun t h' => ∃ w a b c, t = (Sl.nil, w, a, b, c, Sl.nil, Sl.nil, 0) ∧ w.len = 0 ∧ a.len = 0 ∧ b.len = 0 ∧ c.len = 0 ∧ Env h0 h' L) ?_ ?_
  · clear q K
    repeat' first
      | exact ⟨_, _, _, _, rfl, by assumption, by assumption, by assumption, by assumption, by assumption⟩
      | refine Env.mem (L := L) (h0 := h0) (by assumption) fun _ _ => ?_
      | refine Env.mk0 (L := L) (h0 := h0) (by assumption) (by decide) (by decide) fun _ _ _ _ => ?_
      | apply And.intro
  rintro _ h2 ⟨w, a, b, c, rfl, hw, ha, hb, hc, q2⟩
  refine loop_end fun _ => iteF (not_lt_zero hc) ?_
  exact K w a b c h2 hw ha hb hc q2
theorem queue_spec {Q : Sl × Sl → Heap → Prop} (q : Env h0 h L) (K : ∀ s h', s.len = 0 → Env h0 h' L → Q (s, Sl.nil) h') : queue_New 0 h Q := by
  refine q.mem fun h1 q1 => ?_
  rintro n hn
  have hn : n = 0 := hn
  subst hn
  refine q1.mk0 rfl rfl fun s h2 hs q2 => q2.mem fun h3 q3 => loop_end fun _ => iteF rfl ?_
  exact K s h3 hs q3
theorem tableau_spec {Q : Sl × Sl × Sl × Sl × Sl → Heap → Prop} (q : Env h0 h L) (K : ∀ a b c h', a.len = 0 → b.len = 0 → c.len = 0 → Env h0 h' L → Q (Sl.nil, Sl.nil, a, b, c) h') : tableau_New P0 h Q := by
  refine q.mem fun h1 q1 => ?_
  rintro n hn
  have hn : n = 0 := hn
  subst hn
  refine loop_end fun _ => iteF rfl (iteT rfl ?_)
  refine seq.cut (fun t h' => ∃ a b c, t = (Sl.nil, Sl.nil, a, b, c) ∧ a.len = 0 ∧ b.len = 0 ∧ c.len = 0 ∧ Env h0 h' L) ?_ ?_
  · clear q K
    repeat' first
      | exact ⟨_, _, _, rfl, by assumption, by assumption, by assumption, by assumption⟩
      | refine Env.mk0 (L := L) (h0 := h0) (by assumption) (by decide) (by decide) fun _ _ _ _ => ?_
      | apply And.intro
  rintro _ h2 ⟨a, b, c, rfl, ha, hb, hc, q2⟩
  exact K a b c h2 ha hb hc q2
end Go.Sh

namespace Go.Sh
open Go Go.Lift
variable {h0 h : Heap} {L : List (Nat × List Value)}
abbrev St33 := Int × Int × Sl × Sl × Sl × Sl × Sl × Int × Int × Sl × Sl × Sl × Sl × Sl × Sl × Sl × Int × Sl × Sl × Sl × Sl × Sl × Sl × Sl × Sl × Int × Sl × Int × Int × Int × Int × Int × Int
abbrev stT (w a b c s ta tb tc ph : Sl) (n k v : Int) : St33 :=
  (0, 0, Sl.nil, Sl.nil, Sl.nil, Sl.nil, Sl.nil, 2, 9, Sl.nil, w, a, b, c, Sl.nil, Sl.nil, 0, s, Sl.nil, Sl.nil, Sl.nil, ta, tb, tc, Sl.nil, 0, ph, n, 0, 0, 0, k, v)
abbrev toI (n : Int) : Value := Value.int .i64 n
abbrev stV (w a b c s ta tb tc ph : Sl) (n k v : Int) : List Value :=
  [toI 0, toI 0, Sl.toV Sl.nil, Sl.toV Sl.nil, Sl.toV Sl.nil, Sl.toV Sl.nil, Sl.toV Sl.nil, toI 2, toI 9, Sl.toV Sl.nil, Sl.toV w, Sl.toV a, Sl.toV b, Sl.toV c, Sl.toV Sl.nil, Sl.toV Sl.nil, toI 0, Sl.toV s, Sl.toV Sl.nil, Sl.toV Sl.nil, Sl.toV Sl.nil, Sl.toV ta, Sl.toV tb, Sl.toV tc, Sl.toV Sl.nil, toI 0, Sl.toV ph, toI n, toI 0, toI 0, toI 0, toI k, toI v]
theorem engine_spec {Q : St33 × Int → Heap → Prop} (K : ∀ w a b c s ta tb tc ph k h', a.len = 0 → Ext h h' → Q (stT w a b c s ta tb tc ph 0 k 0, 0) h') : engine_New P0 (2, 9) h Q := by
  refine Env.start.mem fun h1 q1 => ?_
  refine seq.dup (cnf_spec fun h2 e2 => iteF rfl ?_)
  refine iteF rfl ?_
  have q2 := q1.more e2
  clear q1
  refine seq.cut (fun t h' => ∃ w a b c s ta tb tc ph k p, Env h h' [(p, stV w a b c s ta tb tc ph 0 k 0)] ∧ t = ⟨p, 0, none⟩ ∧ a.len = 0) ?_ ?_
  · clear K
    repeat' first
      | refine clause_spec (h0 := h) (by assumption) fun _ _ _ _ _ _ _ _ _ _ => ?_
      | refine queue_spec (h0 := h) (by assumption) fun _ _ _ _ => ?_
      | refine tableau_spec (h0 := h) (by assumption) fun _ _ _ _ _ _ _ _ => ?_
      | refine Env.mk0 (h0 := h) (by assumption) rfl rfl fun _ _ _ _ => ?_
      | refine Env.new (h0 := h) (by assumption) fun _ _ _ => ?_
      | refine Env.storeS0 (h0 := h) (by assumption) (by rfl) fun _ _ => ?_
      | apply And.intro
      | exact ⟨_, _, _, _, _, _, _, _, _, _, _, by assumption, rfl, by assumption⟩
  rintro _ h3 ⟨w, a, b, c, s, ta, tb, tc, ph, k, p, q3, rfl, ha⟩
  refine loop_end fun _ => iteF rfl (loop_end fun _ => iteF rfl ?_)
  exact q3.loadS (x := stT w a b c s ta tb tc ph 0 k 0) 0 0 rfl rfl rfl rfl (K w a b c s ta tb tc ph k h3 ha q3.ext)
section
variable {w a b c s ta tb tc ph : Sl} {n k v : Int} {x : Nat × List Value} {p : Nat}
theorem run_spec {Q : Int → Heap → Prop} (q : Env h0 h [x, (p, stV w a b c s ta tb tc ph n k v)]) (K : Q (-1) h) : clause_Run (some ((⟨p, 0, none⟩ : Addr).add 9)) h Q := by
  refine seq.cut (fun t h' => t = -1 ∧ h' = h) (loop_end fun _ => ⟨_, rfl, q.load 1 16 rfl rfl rfl ⟨_, rfl, q.load 1 14 rfl rfl rfl (iteF rfl ⟨rfl, rfl⟩)⟩⟩) ?_
  intro t h' hh
  rw [hh.1, hh.2]
  exact seq.dup (iteF rfl K)
theorem atoms_spec {Q : Option Nat → Heap → Prop} (q : Env h0 h L) (K : ∀ m h', Env h0 h' L → Q m h') : engine_atoms P0 h Q :=
  q.mem fun _ q1 => q1.newM fun m h' q2 => loop_end fun _ => iteF rfl (K m h' q2)
theorem worst_spec {Q : Int × Bool → Heap → Prop} (q : Env h0 h L) (j : Nat) (hj : L[j]? = some (p, stV w a b c s ta tb tc ph n k v)) (K : Q (-1, false) h) : simplex_worst (some ((⟨p, 0, none⟩ : Addr).add 19)) h Q :=
  ⟨_, rfl, q.load j 19 rfl hj rfl (loop_end fun _ => iteF rfl K)⟩
theorem sstep_spec {bb : Option Addr} {Q : Int × Sl × Int → Heap → Prop} (q : Env h0 h [x, (p, stV w a b c s ta tb tc ph n k v)]) (K : ∀ h', Env h0 h' [x, (p, stV w a b c s ta tb tc ph n k v)] → Q (0, Sl.nil, 0) h') : simplex_Step bb (some ((⟨p, 0, none⟩ : Addr).add 19)) h Q := by
  refine q.new fun t h1 q1 => q1.load (x := some ((⟨p, 0, none⟩ : Addr).add 19)) 0 0 rfl rfl rfl (worst_spec q1 2 rfl (q1.new fun u h2 q2 => q2.store0 0 rfl (by decide) fun h3 q3 => iteT rfl ?_))
  exact K h3 q3.drop.drop
theorem check_spec {bb : Option Addr} {Q : Sl × Int → Heap → Prop} (q : Env h0 h [x, (p, stV w a b c s ta tb tc ph n k v)]) (K : ∀ h', Env h0 h' [x, (p, stV w a b c s ta tb tc ph n k v)] → Q (Sl.nil, 0) h') : simplex_Check bb (some ((⟨p, 0, none⟩ : Addr).add 19)) h Q :=
  loop_end fun _ => sstep_spec q fun h' q' => iteT rfl (K h' q')
theorem numbers_spec {bb : Option Addr} {Q : Sl → Heap → Prop} (q : Env h0 h [x, (p, stV w a b c s ta tb tc ph n k v)]) (K : ∀ h', Env h0 h' [x, (p, stV w a b c s ta tb tc ph n k v)] → Q Sl.nil h') : engine_numbers bb (some ⟨p, 0, none⟩) h Q := by
  refine ⟨_, rfl, q.loadS (x := P0) 1 0 rfl rfl rfl rfl (atoms_spec q fun m h1 q1 => loop_end fun _ => ⟨_, rfl, q1.load 1 25 rfl rfl rfl ⟨_, rfl, q1.load 1 14 rfl rfl rfl (iteF rfl ⟨_, rfl, check_spec q1 fun h2 q2 => ?_⟩)⟩⟩)⟩
  exact loop_end fun _ => iteF rfl (K h2 q2)
theorem step_spec {Q : Unit → Heap → Prop} (ha : a.len = 0) (q : Env h0 h [(p, stV w a b c s ta tb tc ph 0 k 0)]) (K : ∀ h', Env h0 h' [(p, stV w a b c s ta tb tc ph 1 k 1)] → Q () h') : engine_Step (some ⟨p, 0, none⟩) h Q := by
  refine ⟨_, rfl, q.load 0 32 rfl rfl rfl (iteF rfl ⟨_, rfl, q.load 0 27 rfl rfl rfl ⟨_, rfl, q.store0 27 rfl (by show 27 < 33; decide) fun h1 q1 => ⟨_, rfl, ?_⟩⟩⟩)⟩
  have q1 : Env h0 h1 [(p, stV w a b c s ta tb tc ph 1 k 0)] := q1
  refine q1.load (x := (2 : Int)) 0 7 rfl rfl rfl (q1.new fun nb h2 q2 => ?_)
  refine ⟨_, rfl, run_spec q2 (iteF rfl (numbers_spec q2 fun h3 q3 => ?_))⟩
  refine ⟨_, rfl, q3.load (x := false) 0 1 rfl rfl rfl (iteF rfl (iteF rfl ⟨_, rfl, q3.load 1 14 rfl rfl rfl ⟨_, rfl, q3.load (x := a) 1 11 rfl rfl rfl (iteT (by rw [ha]; rfl) ⟨_, rfl, q3.store1 32 rfl (by show 32 < 33; decide) fun h4 q4 => ?_⟩)⟩⟩))⟩
  have q4 : Env h0 h4 [_, (p, stV w a b c s ta tb tc ph 1 k 1)] := q4
  exact K h4 q4.drop
end
end Go.Sh

namespace Go.Sh
open Go Go.Lift
def rowN : Nat → List Nat
  | 0 => [1]
  | j + 1 => rowN j ++ rowN j ++ [2 ^ (j + 1)]
theorem rowN_len : ∀ j, (rowN j).length + 1 = 2 ^ (j + 1)
  | 0 => rfl
  | j + 1 => by
    have := rowN_len j
    rw [rowN, List.length_append, List.length_append, List.length_singleton, Nat.pow_succ]
    omega
theorem rowN_sub : ∀ {j i : Nat}, j ≤ i → ∀ x, x < (rowN j).length → (rowN i)[x]? = (rowN j)[x]? := by
  intro j i hji
  induction hji with
  | refl => intro x _; rfl
  | @step i hji ih =>
    intro x hx
    rw [← ih x hx, rowN]
    have hl : (rowN j).length ≤ (rowN i).length := by
      have h1 := rowN_len j
      have h2 := rowN_len i
      have : 2 ^ (j + 1) ≤ 2 ^ (i + 1) := Nat.pow_le_pow_right (by decide) (by have : j ≤ i := hji; omega)
      omega
    rw [List.getElem?_append_left (by rw [List.length_append]; omega), List.getElem?_append_left (by omega)]
theorem rowN_top (j : Nat) : (rowN j)[2 ^ (j + 1) - 2]? = some (2 ^ j) := by
  cases j with
  | zero => rfl
  | succ j =>
    have h1 := rowN_len j
    have h2 : 2 ^ (j + 1 + 1) = 2 ^ (j + 1) * 2 := Nat.pow_succ ..
    rw [rowN, List.getElem?_append_right (by rw [List.length_append]; omega), List.length_append, show 2 ^ (j + 1 + 1) - 2 - ((rowN j).length + (rowN j).length) = 0 by omega]
    rfl
theorem rowN_step (j : Nat) {x : Nat} (h1 : (rowN j).length ≤ x) (h2 : x < 2 * (rowN j).length) : (rowN (j + 1))[x]? = (rowN j)[x - (rowN j).length]? := by
  rw [rowN, List.getElem?_append_left (by rw [List.length_append]; omega), List.getElem?_append_right h1]
/-- The n-th number of the row, up to 4095. -/
def lubN (n : Nat) : Nat := (rowN 11).getD (n - 1) 0
theorem lub_top {k n : Nat} (h1 : 1 ≤ k) (h2 : k ≤ 12) (hn : n + 1 = 2 ^ k) : lubN n = 2 ^ (k - 1) := by
  obtain ⟨j, rfl⟩ : ∃ j, k = j + 1 := ⟨k - 1, by omega⟩
  have hl := rowN_len j
  have h0 : 1 ≤ 2 ^ j := Nat.one_le_two_pow
  have hp : 2 ^ (j + 1) = 2 ^ j * 2 := Nat.pow_succ ..
  unfold lubN
  rw [List.getD_eq_getElem?_getD, rowN_sub (j := j) (by omega) (n - 1) (by omega), show n - 1 = 2 ^ (j + 1) - 2 by omega, rowN_top]
  rfl
theorem lub_step {k n : Nat} (h1 : 1 ≤ k) (h2 : k ≤ 12) (hlo : 2 ^ (k - 1) ≤ n) (hhi : n + 1 < 2 ^ k) : 2 ≤ 2 ^ (k - 1) ∧ lubN n = lubN (n - (2 ^ (k - 1) - 1)) := by
  obtain ⟨j, rfl⟩ : ∃ j, k = j + 2 := ⟨k - 2, by
    rcases Nat.lt_or_ge k 2 with h | h
    · obtain rfl : k = 1 := by omega
      simp at hlo hhi
      omega
    · omega⟩
  have hk : j + 2 - 1 = j + 1 := rfl
  rw [hk] at hlo ⊢
  have hl := rowN_len j
  have hp : 2 ^ (j + 2) = 2 ^ (j + 1) * 2 := Nat.pow_succ ..
  have h0 : 1 ≤ 2 ^ j := Nat.one_le_two_pow
  have hp0 : 2 ^ (j + 1) = 2 ^ j * 2 := Nat.pow_succ ..
  refine ⟨by omega, ?_⟩
  unfold lubN
  have hl1 := rowN_len (j + 1)
  rw [List.getD_eq_getElem?_getD, List.getD_eq_getElem?_getD, rowN_sub (j := j + 1) (by omega) (n - 1) (by omega), rowN_step j (by omega) (by omega), show n - 1 - (rowN j).length = n - (2 ^ (j + 1) - 1) - 1 by omega, rowN_sub (i := 11) (j := j) (by omega) (n - (2 ^ (j + 1) - 1) - 1) (by omega)]
def lenTab : ByteArray := ByteArray.mk #[0, 1, 2, 2, 3, 3, 3, 3, 4, 4, 4, 4, 4, 4, 4, 4, 5, 5, 5, 5, 5, 5, 5, 5, 5, 5, 5, 5, 5, 5, 5, 5, 6, 6, 6, 6, 6, 6, 6, 6, 6, 6, 6, 6, 6, 6, 6, 6, 6, 6, 6, 6, 6, 6, 6, 6, 6, 6, 6, 6, 6, 6, 6, 6, 7, 7, 7, 7, 7, 7, 7, 7, 7, 7, 7, 7, 7, 7, 7, 7, 7, 7, 7, 7, 7, 7, 7, 7, 7, 7, 7, 7, 7, 7, 7, 7, 7, 7, 7, 7, 7, 7, 7, 7, 7, 7, 7, 7, 7, 7, 7, 7, 7, 7, 7, 7, 7, 7, 7, 7, 7, 7, 7, 7, 7, 7, 7, 7, 8, 8, 8, 8, 8, 8, 8, 8, 8, 8, 8, 8, 8, 8, 8, 8, 8, 8, 8, 8, 8, 8, 8, 8, 8, 8, 8, 8, 8, 8, 8, 8, 8, 8, 8, 8, 8, 8, 8, 8, 8, 8, 8, 8, 8, 8, 8, 8, 8, 8, 8, 8, 8, 8, 8, 8, 8, 8, 8, 8, 8, 8, 8, 8, 8, 8, 8, 8, 8, 8, 8, 8, 8, 8, 8, 8, 8, 8, 8, 8, 8, 8, 8, 8, 8, 8, 8, 8, 8, 8, 8, 8, 8, 8, 8, 8, 8, 8, 8, 8, 8, 8, 8, 8, 8, 8, 8, 8, 8, 8, 8, 8, 8, 8, 8, 8, 8, 8, 8, 8, 8, 8, 8, 8, 8, 8, 8, 8]
set_option maxRecDepth 100000 in
theorem lenTab_fact : ∀ i : Fin 256, i.val = 0 ∨ ∃ b, lenTab.data[i.val]? = some b ∧ 1 ≤ b.toNat ∧ b.toNat ≤ 8 ∧ 2 ^ (b.toNat - 1) ≤ i.val ∧ i.val < 2 ^ b.toNat := by
  have : ∀ i : Fin 256, i.val = 0 ∨ (match lenTab.data[i.val]? with | some b => decide (1 ≤ b.toNat ∧ b.toNat ≤ 8 ∧ 2 ^ (b.toNat - 1) ≤ i.val ∧ i.val < 2 ^ b.toNat) | none => false) = true := by decide +kernel
  intro i
  rcases this i with h | h
  · exact .inl h
  · refine .inr ?_
    split at h
    · rename_i b hb
      exact ⟨b, hb, of_decide_eq_true h⟩
    · cases h
theorem len_spec {m : Nat} {h : Heap} {Q : Int → Heap → Prop} (h1 : 1 ≤ m) (h2 : m < 4096) (K : ∀ k : Nat, 1 ≤ k → k ≤ 12 → 2 ^ (k - 1) ≤ m → m < 2 ^ k → Q (k : Int) h) : math_bits_Len (m : Int) h Q := by
  unfold math_bits_Len math_bits_Len64
  refine seq.dup (iteF (decide_eq_false (by omega)) ?_)
  refine seq.dup (iteF (decide_eq_false (by omega)) ?_)
  have tail : ∀ (x s : Nat), 1 ≤ x → x < 256 → s ≤ 8 → (∀ k : Nat, 1 ≤ k → k ≤ 8 → 2 ^ (k - 1) ≤ x → x < 2 ^ k → Q ((s + k : Nat) : Int) h) → idxStr lenTab (IntKind.wrap .u8 (x : Int)) fun v => Let (IntKind.wrap .i64 ((s : Int) + (IntKind.wrap .i64 v)) : Int) fun n => Q n h := by
    intro x s hx1 hx2 hs Kk
    have hw : IntKind.wrap .u8 (x : Int) = (x : Int) := by rw [wu8m]; omega
    rw [hw]
    rcases lenTab_fact ⟨x, hx2⟩ with h0 | ⟨b, hb, b1, b2, b3, b4⟩
    · dsimp only at h0; omega
    · refine ⟨by omega, b, by simpa using hb, ?_⟩
      rintro n hn
      rw [hn, w64 (n := (b.toNat : Int)) (by omega) (by omega), w64 (by omega) (by omega)]
      have := Kk b.toNat b1 b2 b3 b4
      rwa [Int.natCast_add] at this
  refine seq.cut (fun t h' => h' = h ∧ ∃ x s : Nat, t = ((x : Int), (s : Int)) ∧ 1 ≤ x ∧ x < 256 ∧ s ≤ 8 ∧ ∀ k : Nat, 1 ≤ k → k ≤ 8 → 2 ^ (k - 1) ≤ x → x < 2 ^ k → s + k ≤ 12 ∧ 2 ^ (s + k - 1) ≤ m ∧ m < 2 ^ (s + k)) ⟨fun g => ?_, fun g => ?_⟩ ?_
  · have g := of_decide_eq_true g
    rintro x hx n hn
    refine ⟨rfl, m / 256, 8, ?_, by omega, by omega, by omega, fun k k1 k2 k3 k4 => ?_⟩
    · rw [hn, hx, w64 (by omega) (by omega)]
      have : Int.fdiv (m : Int) (2 ^ (min (Int.toNat 8) (IntKind.bits .u64))) = ((m / 256 : Nat) : Int) := by
        rw [show ((2 : Int) ^ (min (Int.toNat 8) (IntKind.bits .u64))) = 256 from rfl, Int.fdiv_eq_ediv_of_nonneg _ (by omega)]
        rfl
      rw [this]
      rfl
    · have e1 : 2 ^ (8 + k - 1) = 256 * 2 ^ (k - 1) := by rw [show 8 + k - 1 = 8 + (k - 1) by omega, Nat.pow_add]
      have e2 : 2 ^ (8 + k) = 256 * 2 ^ k := by rw [Nat.pow_add]
      refine ⟨?_, by rw [e1]; omega, by rw [e2]; omega⟩
      rcases Nat.lt_or_ge 4 k with hk | hk
      · have : 2 ^ 4 ≤ 2 ^ (k - 1) := Nat.pow_le_pow_right (by decide) (by omega)
        omega
      · omega
  · have g := of_decide_eq_false g
    refine ⟨rfl, m, 0, rfl, h1, by omega, by omega, fun k k1 k2 k3 k4 => ⟨by omega, by simpa using k3, by simpa using k4⟩⟩
  rintro _ _ ⟨he, x, s, rfl, hx1, hx2, hs, hk⟩
  rw [he]
  refine tail x s hx1 hx2 hs fun k k1 k2 k3 k4 => ?_
  obtain ⟨a1, a2, a3⟩ := hk k k1 k2 k3 k4
  exact K _ (by omega) a1 a2 a3
theorem luby_spec {n : Nat} {h : Heap} {Q : Int → Heap → Prop} (h1 : 1 ≤ n) (h2 : n < 4096) (K : Q (lubN n : Int) h) : engine_Luby (n : Int) h Q := by
  refine loop.inv (fun s h' => h' = h ∧ ∃ m : Nat, s = (m : Int) ∧ 1 ≤ m ∧ m < 4096 ∧ lubN m = lubN n) (fun s _ => s.toNat) ⟨rfl, n, rfl, h1, h2, rfl⟩ ?_
  rintro _ _ ⟨he, m, rfl, m1, m2, hm⟩
  rw [he]
  refine iteT (decide_eq_true (by omega)) ?_
  rw [wu64 (by omega) (by omega)]
  refine len_spec m1 m2 fun k k1 k2 k3 k4 => ?_
  have hpow : 2 ^ k = 2 ^ (k - 1) * 2 := by rw [← Nat.pow_succ]; congr 1; omega
  have hP : 2 ^ (k - 1) < 4096 := by omega
  have hb : ∀ j : Nat, j ≤ 12 → (1 : Int) * 2 ^ (min (Int.toNat (j : Int)) (IntKind.bits .i64)) = ((2 ^ j : Nat) : Int) := by
    intro j hj
    have : min (Int.toNat (j : Int)) (IntKind.bits .i64) = j := by
      rw [show IntKind.bits .i64 = 64 from rfl]; omega
    rw [this]; simp
  have hk1 : IntKind.wrap .i64 ((k : Int) - 1) = ((k - 1 : Nat) : Int) := by rw [w64 (by omega) (by omega)]; omega
  rw [hk1, hb k k2, hb (k - 1) (by omega), w64 (n := ((2 ^ k : Nat) : Int)) (by omega) (by omega), w64 (n := ((2 ^ (k - 1) : Nat) : Int)) (by omega) (by omega), w64 (n := ((2 ^ k : Nat) : Int) - 1) (by omega) (by omega), w64 (n := ((2 ^ (k - 1) : Nat) : Int) - 1) (by omega) (by omega)]
  refine ⟨by omega, fun g => ⟨by omega, ?_⟩, fun g => ⟨by omega, ?_⟩⟩
  · have g : (m : Int) = ((2 ^ k : Nat) : Int) - 1 := by simpa using g
    rw [← hm, lub_top k1 k2 (by omega)] at K
    exact K
  · have g : ¬ (m : Int) = ((2 ^ k : Nat) : Int) - 1 := by simpa using g
    obtain ⟨s1, s2⟩ := lub_step k1 k2 k3 (by omega)
    rintro x hx
    rw [w64 (by omega) (by omega)] at hx
    refine ⟨⟨rfl, m - (2 ^ (k - 1) - 1), by omega, by omega, by omega, by rw [← s2, hm]⟩, by omega⟩
theorem luby_none {n : Int} {h : Heap} {Q : Int → Heap → Prop} (h1 : n < 1) (K : Q 0 h) : engine_Luby n h Q :=
  loop_end fun _ => iteF (decide_eq_false (by omega)) K
end Go.Sh

namespace Go.Sh
open Go Go.Lift
/-- What is appended lies behind what was there. -/
theorem appendS_keep {B i bytes : Nat} {xs : List Nat} {s x : Sl} {h : Heap} {a : Addr} {v : Value} {k : Sl → Heap → Prop} (ho : Own (fun n : Nat => toI n) B h s xs) (ha : s.a = some a) (hi : i < xs.length) (hc : cell? h (a.add i) = some v)
    (H : appendS 1 bytes s x h fun s' h' => cell? h' (a.add i) = some v → k s' h') : appendS 1 bytes s x h k := by
  obtain ⟨vs, h1, h2, h3, h4, h5⟩ := H
  have hl := ho.r.len
  refine ⟨vs, h1, h2, h3, fun hf => ?_, fun hg => ?_⟩
  · have H4 := h4 hf
    rcases ho.own with ⟨hn, _⟩ | ⟨b, c, T, hb, _, hblk, hcs⟩
    · rw [hn] at ha; cases ha
    · obtain rfl := Option.some.inj (ha.symm.trans hb)
      simp only [hb, Nat.mul_one] at H4 ⊢
      refine ⟨H4.1, H4.2 ?_⟩
      have hvl : vs.length ≤ x.len := by
        cases hx : x.a with
        | none =>
          rw [hx] at h1
          obtain rfl := Option.some.inj (show some [] = some vs from h1)
          exact Nat.zero_le _
        | some ax =>
          rw [hx] at h1
          have := cells?_length _ _ _ h1
          omega
      rw [addr_add _ _ rfl, addr_add _ _ rfl]
      simp only [Nat.zero_add]
      obtain ⟨c', q1, q2, q3, q4, q5⟩ := setCells_block (T := T) vs s.len 0 h c hblk (by omega)
      rw [addr_add _ _ rfl] at hc
      simp only [Nat.zero_add] at hc
      unfold cell? at hc ⊢
      simp only [q1]
      simp only [hblk] at hc
      simpa [q3 i (by omega)] using hc
  · obtain ⟨old, g1, g2⟩ := h5 hg
    refine ⟨old, g1, fun cap T rest r1 r2 => g2 cap T rest r1 r2 ?_⟩
    exact cell_keep (Ext.push _ _) hc (by simp)
theorem ext_own {α : Type} {toV : α → Value} {s : Sl} {xs : List α} {h0 h h' : Heap} (e : Ext h0 h) (ho : Own toV h0.size h s xs) (k : Keep s.blk h h') : Ext h0 h' := by
  cases hb : s.blk with
  | none => rw [hb] at k; exact e.trans k
  | some b => rw [hb] at k; exact e.fresh (ho.lt hb).1 k
theorem refLuby_spec {n : Nat} {h : Heap} {Q : Int → Heap → Prop} (h1 : 1 ≤ n) (h2 : n < 4096) (K : ∀ h', Ext h h' → Q (lubN n : Int) h') : ref20uLuby (n : Int) h Q := by
  intro T
  rintro row hrow
  have ho : Own (fun n : Nat => toI n) h.size (h.push (.cells [Value.int .i64 1].toArray T (0, 0))) row (rowN 0) := by rw [hrow]; exact Own.new (ys := [1]) rfl
  have e1 := Ext.push h (.cells [Value.int .i64 1].toArray T (0, 0))
  generalize (h.push (.cells [Value.int .i64 1].toArray T (0, 0)) : Heap) = g1 at *
  refine loop.inv (fun (s : Sl) h' => Ext h h' ∧ ∃ j, Own (fun n : Nat => toI n) h.size h' s (rowN j) ∧ j ≤ 11) (fun s _ => n - s.len) ⟨e1, 0, ho, by omega⟩ ?_
  clear ho hrow e1
  rintro s g ⟨e, j, ho, hj⟩
  have hlen := ho.r.len
  have hl := rowN_len j
  have hp : 1 ≤ 2 ^ j := Nat.one_le_two_pow
  have hp2 : 2 ^ (j + 1) = 2 ^ j * 2 := Nat.pow_succ ..
  have htop := rowN_top j
  refine ⟨fun c => ?_, fun c => ?_⟩
  · have c := of_decide_eq_true c
    have hj' : j + 1 ≤ 11 := by
      rcases Nat.lt_or_ge j 11 with h | h
      · omega
      · have : 2 ^ 12 ≤ 2 ^ (j + 1) := Nat.pow_le_pow_right (by decide) (by omega)
        omega
    have hpm : 2 ^ (j + 1) ≤ 2 ^ 11 := Nat.pow_le_pow_right (by decide) hj'
    have hi : IntKind.wrap .i64 (((s.len : Nat) : Int) - 1) = (((rowN j).length - 1 : Nat) : Int) := by rw [w64 (by omega) (by omega)]; omega
    rw [hi]
    refine ho.r.idx (by omega) (by omega) fun a ha hc => ⟨((2 ^ j : Nat) : Int), ?_, ?_⟩
    · rw [hc]
      have : (rowN j)[((rowN j).length - 1)]? = some (2 ^ j) := by rw [show (rowN j).length - 1 = 2 ^ (j + 1) - 2 by omega]; exact htop
      have h3 := (List.getElem?_eq_some_iff.1 this).2
      simp only [Int.toNat_natCast]
      rw [h3]
    have hc' : cell? g (a.add (((rowN j).length - 1 : Nat) : Int).toNat) = some (toI ((2 ^ j : Nat) : Int)) := by
      rw [hc]
      have : (rowN j)[((rowN j).length - 1)]? = some (2 ^ j) := by rw [show (rowN j).length - 1 = 2 ^ (j + 1) - 2 by omega]; exact htop
      have h3 := (List.getElem?_eq_some_iff.1 this).2
      simp only [Int.toNat_natCast]
      rw [h3]
    have hw : IntKind.wrap .i64 (2 * ((2 ^ j : Nat) : Int)) = ((2 ^ (j + 1) : Nat) : Int) := by rw [w64 (by omega) (by omega)]; omega
    dsimp only
    rw [hw]
    have hidx : (((rowN j).length - 1 : Nat) : Int).toNat = (rowN j).length - 1 := by omega
    have done : ∀ (s' : Sl) (g' : Heap), Ext h g' → Own (fun n : Nat => toI n) h.size g' s' (rowN (j + 1)) → (Ext h g' ∧ ∃ j, Own (fun n : Nat => toI n) h.size g' s' (rowN j) ∧ j ≤ 11) ∧ n - s'.len < n - s.len := by
      intro s' g' e' o'
      have h3 := o'.r.len
      have h4 := rowN_len (j + 1)
      have h5 : 2 ^ (j + 1 + 1) = 2 ^ (j + 1) * 2 := Nat.pow_succ ..
      exact ⟨⟨e', j + 1, o', hj'⟩, by omega⟩
    refine ⟨?_, ?_⟩
    · refine appendS_keep (i := (((rowN j).length - 1 : Nat) : Int).toNat) ho ha (by omega) hc' (ho.append (by exact e.size) ho.r (fun _ => rfl) (by omega) fun s2 g2 o2 k2 _ hcell => ⟨hcell, fun T2 => ?_⟩)
      have e2 := ext_own e ho k2
      have on : Own (fun n : Nat => toI n) g2.size (g2.push (.cells [Value.int .i64 ((2 ^ (j + 1) : Nat) : Int)].toArray T2 (0, 0))) ⟨some ⟨g2.size, 0, none⟩, 1, 1⟩ [2 ^ (j + 1)] := Own.new (ys := [2 ^ (j + 1)]) rfl
      have e3 := Ext.push g2 (.cells [Value.int .i64 ((2 ^ (j + 1) : Nat) : Int)].toArray T2 (0, 0))
      generalize (g2.push (.cells [Value.int .i64 ((2 ^ (j + 1) : Nat) : Int)].toArray T2 (0, 0)) : Heap) = g3 at *
      refine (o2.ext e3).append (by exact (e2.trans e3).size) on.r (fun _ => rfl) (by simp; omega) fun s4 g4 o4 k4 _ => ?_
      exact done s4 g4 (ext_own (e2.trans e3) (o2.ext e3) k4) o4
    · intro T2
      have on : Own (fun n : Nat => toI n) g.size (g.push (.cells [Value.int .i64 ((2 ^ (j + 1) : Nat) : Int)].toArray T2 (0, 0))) ⟨some ⟨g.size, 0, none⟩, 1, 1⟩ [2 ^ (j + 1)] := Own.new (ys := [2 ^ (j + 1)]) rfl
      have e3 := Ext.push g (.cells [Value.int .i64 ((2 ^ (j + 1) : Nat) : Int)].toArray T2 (0, 0))
      have hsz : (g.push (.cells [Value.int .i64 ((2 ^ (j + 1) : Nat) : Int)].toArray T2 (0, 0)) : Heap).size = g.size + 1 := by simp
      have hlt : ∀ b, s.blk = some b → b < g.size := fun b hb => (ho.lt hb).2
      generalize hgn : g.size = gn at *
      generalize (g.push (.cells [Value.int .i64 ((2 ^ (j + 1) : Nat) : Int)].toArray T2 (0, 0)) : Heap) = g3 at *
      have o3 := ho.ext e3
      have es := e.size
      refine o3.append (by omega) o3.r (fun _ => rfl) (by omega) fun s4 g4 o4 k4 hb4 => ?_
      have e4 := ext_own (e.trans e3) o3 k4
      have on4 := on.r.keep k4 (fun a ha hx => by
        cases ha
        have := hlt gn hx.symm
        omega)
      refine o4.append (by exact e4.size) on4 (fun _ => rfl) (by simp; omega) fun s5 g5 o5 k5 _ => ?_
      exact done s5 g5 (ext_own e4 o4 k5) o5
  · have c := of_decide_eq_false c
    have hi : IntKind.wrap .i64 ((n : Int) - 1) = ((n - 1 : Nat) : Int) := by rw [w64 (by omega) (by omega)]; omega
    rw [hi]
    refine ho.r.idx (by omega) (by omega) fun a ha hc => ⟨(lubN n : Int), ?_, K g e⟩
    rw [hc]
    have : (rowN j)[n - 1]? = some (lubN n) := by
      unfold lubN
      rw [List.getD_eq_getElem?_getD, rowN_sub hj (n - 1) (by omega), List.getElem?_eq_getElem (by omega)]
      rfl
    have h3 := (List.getElem?_eq_some_iff.1 this).2
    simp only [Int.toNat_natCast]
    rw [h3]
theorem speaks20uspec {h : Heap} {Q : Bool → Heap → Prop} (K : ∀ h', Ext h h' → Q true h') : law20uspeaks h Q := by
  refine engine_spec fun w a b c s ta tb tc ph k h1 ha e1 => ?_
  refine Env.start.new fun p h2 q2 => q2.storeS0 rfl fun h3 q3 => ?_
  have q3 : Env h1 h3 [(p, stV w a b c s ta tb tc ph 0 k 0)] := q3
  refine step_spec ha q3 fun h4 q4 => ?_
  refine seq.dup (iteT rfl (q4.load (x := (1 : Int)) 0 32 rfl rfl rfl (iteT rfl (q4.load (x := (1 : Int)) 0 27 rfl rfl rfl (iteT rfl (luby_spec (n := 7) (by decide) (by decide) ?_))))))
  rw [show (((lubN 7 : Nat) : Int) == 4) = true by decide +kernel]
  exact K h4 (e1.trans q4.ext)
theorem EngineLuby_holds {n : Int} {h : Heap} {Q : Bool → Heap → Prop} (K : ∀ h', Ext h h' → Q true h') : law20uEngineLuby n h Q := by
  refine speaks20uspec fun h1 e1 => iteF rfl ⟨fun g => ?_, fun _ => ?_⟩
  · exact luby_none (of_decide_eq_true g) (K h1 e1)
  · rintro k hk
    have hk : ∃ m : Nat, k = (m : Int) ∧ m < 4096 := by
      refine ⟨(BitVec.ofInt (IntKind.bits .i64) n &&& BitVec.ofInt (IntKind.bits .i64) 4095).toNat, ?_, ?_⟩
      · rw [hk, w64]
        · omega
        · have : (BitVec.ofInt (IntKind.bits .i64) n &&& BitVec.ofInt (IntKind.bits .i64) 4095).toNat ≤ 4095 := by
            rw [BitVec.toNat_and]; exact Nat.and_le_right
          omega
      · have : (BitVec.ofInt (IntKind.bits .i64) n &&& BitVec.ofInt (IntKind.bits .i64) 4095).toNat ≤ 4095 := by
          rw [BitVec.toNat_and]; exact Nat.and_le_right
        omega
    obtain ⟨m, rfl, hm⟩ := hk
    refine seq.dup ⟨fun _ => K h1 e1, fun g => ?_⟩
    have g : ¬ (m : Int) = 0 := by simpa using g
    refine luby_spec (by omega) hm (refLuby_spec (by omega) hm fun h2 e2 => ?_)
    rw [show (((lubN m : Nat) : Int) == ((lubN m : Nat) : Int)) = true by simp]
    exact K h2 (e1.trans e2)
end Go.Sh

namespace Go.Sh
abbrev g_math_bits_deBruijn32tab : Nat := 0
def tab32 : List Nat := [0, 1, 28, 2, 29, 14, 24, 3, 30, 22, 20, 15, 25, 17, 4, 8, 31, 27, 13, 23, 21, 19, 16, 7, 26, 12, 18, 6, 11, 5, 10, 9]
end Go.Sh

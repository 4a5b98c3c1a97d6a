/-
  Laws that the proof of this claim's statement leans on, each proved under the conditions that it states.
-/
import Derived.Test.YtmcfhickfcmkkaaGreatDoorSh
import Derived.Test.YtmcfhickfcmkkaaGreatDoorFwE
set_option linter.unusedVariables false
set_option linter.unusedSimpArgs false
namespace Go.Sh.Nw
open Go Go.Lift
theorem ak {h : Heap} {k : Heap → Prop} (K : ∀ h', Ext h h' → k h') : mem h k := fun h' e => K h' ⟨e.size, fun b hb _ => e.same b hb⟩
theorem lO {σ : Type} {body : σ → Heap → (σ → Heap → Prop) → Prop} {s : σ} {h : Heap} (H : ∀ K, body s h K) : loop body s h := by
  refine loop.inv (fun s' h' => s' = s ∧ h' = h) (fun _ _ => 0) ⟨rfl, rfl⟩ ?_
  intro s' h' hh
  rw [hh.1, hh.2]
  exact H _
theorem iteF {b : Bool} {A B : Prop} (hb : b = false) (H : B) : iteB b A B := by subst hb; exact ⟨nofun, fun _ => H⟩
theorem iteT {b : Bool} {A B : Prop} (hb : b = true) (H : A) : iteB b A B := by subst hb; exact ⟨fun _ => H, nofun⟩
theorem ad9 {s : Sl} (h : s.len = 0) : decide ((0 : Int) < ((s.len : Nat) : Int)) = false := by rw [h]; rfl
def Blk (h : Heap) (b : Nat) (cs : List Value) : Prop := ∃ T, h[b]? = some (.cells cs.toArray T (0, 0))
structure Env (h0 h : Heap) (L : List (Nat × List Value)) : Prop where
  ext : Ext h0 h
  ge : ∀ x ∈ L, h0.size ≤ x.1
  nd : (L.map (·.1)).Nodup
  at' : ∀ x ∈ L, Blk h x.1 x.2
variable {h0 h : Heap} {L : List (Nat × List Value)}
theorem Env.start : Env h h [] := ⟨Keep.refl _ _, by simp, by simp, by simp⟩
theorem Blk.lt {b : Nat} {cs : List Value} (q : Blk h b cs) : b < h.size := by
  obtain ⟨T, hq⟩ := q
  exact (Array.getElem?_eq_some_iff.1 hq).1
theorem Env.more {h' : Heap} (q : Env h0 h L) (e : Ext h h') : Env h0 h' L :=
  ⟨q.ext.trans e, q.ge, q.nd, fun x hx => by
    obtain ⟨T, hT⟩ := q.at' x hx
    exact ⟨T, by rw [e.same x.1 (Blk.lt ⟨T, hT⟩) (by simp)]; exact hT⟩⟩
theorem Env.mem (q : Env h0 h L) {k : Heap → Prop} (K : ∀ h', Env h0 h' L → k h') : mem h k := ak fun h' e => K h' (q.more e)
theorem Env.new (q : Env h0 h L) {cs : List Value} {k : Addr → Heap → Prop} (K : ∀ b h', Env h0 h' ((b, cs) :: L) → k ⟨b, 0, none⟩ h') : new cs h k := by
  intro T
  refine K h.size _ ⟨q.ext.trans (Ext.push _ _), fun x hx => ?_, ?_, fun x hx => ?_⟩
  · rcases List.mem_cons.1 hx with rfl | hx
    · exact q.ext.size
    · exact q.ge x hx
  · rw [List.map_cons, List.nodup_cons]
    refine ⟨fun hm => ?_, q.nd⟩
    obtain ⟨x, hx, he⟩ := List.mem_map.1 hm
    have := (q.at' x hx).lt
    dsimp only at he
    omega
  · rcases List.mem_cons.1 hx with rfl | hx
    · exact ⟨T, Array.getElem?_push_size⟩
    · obtain ⟨T', hT⟩ := q.at' x hx
      exact ⟨T', by rw [(Ext.push h _).same x.1 (Blk.lt ⟨T', hT⟩) (by simp)]; exact hT⟩
theorem Env.blk (q : Env h0 h L) (n : Nat) {b : Nat} {cs : List Value} (hn : L[n]? = some (b, cs)) : Blk h b cs := q.at' _ (List.mem_of_getElem? hn)
theorem Blk.cell {b i : Nat} {cs : List Value} (q : Blk h b cs) : cell? h ⟨b, i, none⟩ = cs[i]? := by
  obtain ⟨T, hT⟩ := q
  unfold cell?
  dsimp only
  rw [hT]
  simp
theorem Env.load {α : Type} {toV : α → Value} {x : α} {k : α → Prop} (q : Env h0 h L) (n i : Nat) {a : Addr} {b : Nat} {cs : List Value} (ha : a = ⟨b, i, none⟩) (hn : L[n]? = some (b, cs)) (hi : cs[i]? = some (toV x)) (K : k x) : Lift.load toV a h k := by
  subst ha
  exact ⟨x, by rw [(q.blk n hn).cell]; exact hi, K⟩
theorem Env.cells (q : Env h0 h L) (n i m : Nat) {a : Addr} {b : Nat} {cs ds : List Value} (ha : a = ⟨b, i, none⟩) (hn : L[n]? = some (b, cs)) (hd : (cs.drop i).take m = ds) (hm : ds.length = m) : cells? h a m 0 = some ds := by
  subst ha
  have := cells?_mk (h := h) (a := ⟨b, i, none⟩) ds 0 (fun j hj => by
    rw [Nat.zero_add, cu _ _ rfl]
    dsimp only
    rw [(q.blk n hn).cell, ← List.getElem?_eq_getElem hj, ← hd, List.getElem?_take, List.getElem?_drop]
    rw [if_pos (by omega)])
  rw [hm] at this
  exact this
theorem Env.loadS {α : Type} {toC : α → List Value} {x : α} {k : α → Prop} (q : Env h0 h L) (n i : Nat) {m : Nat} {a : Addr} {b : Nat} {cs : List Value} (ha : a = ⟨b, i, none⟩) (hn : L[n]? = some (b, cs)) (hd : (cs.drop i).take m = toC x) (hm : (toC x).length = m) (K : k x) : cg toC m a h k :=
  ⟨x, q.cells n i m ha hn hd hm, K⟩
theorem Env.upd {h' : Heap} (q : Env h0 h L) (n : Nat) {b : Nat} {cs ds : List Value} (hn : L[n]? = some (b, cs)) (k : Keep (some b) h h') (hb : Blk h' b ds) : Env h0 h' (L.set n (b, ds)) := by
  have hlt : n < L.length := (List.getElem?_eq_some_iff.1 hn).1
  have hLn : L[n] = (b, cs) := (List.getElem?_eq_some_iff.1 hn).2
  have hmap : (L.set n (b, ds)).map (·.1) = L.map (·.1) := by
    rw [List.map_set]
    apply List.ext_getElem?
    intro i
    rw [List.getElem?_set]
    split
    · rename_i e; subst e; simp [hlt, hLn]
    · rfl
  have hge : h0.size ≤ b := q.ge (b, cs) (List.mem_of_getElem? hn)
  refine ⟨q.ext.fresh hge k, fun x hx => ?_, by rw [hmap]; exact q.nd, fun x hx => ?_⟩
  · rcases List.mem_or_eq_of_mem_set hx with hx | rfl
    · exact q.ge x hx
    · exact hge
  · obtain ⟨i, hi, hx⟩ := List.mem_iff_getElem.1 hx
    have hi' : i < L.length := by simpa using hi
    by_cases e : n = i
    · subst e
      simp at hx
      subst hx
      exact hb
    · rw [List.getElem_set_ne e] at hx
      subst hx
      obtain ⟨T, hT⟩ := q.at' L[i] (List.getElem_mem hi')
      have hne : L[i].1 ≠ b := by
        intro he
        have hi2 : i < (L.map (·.1)).length := by simpa using hi'
        have hn2 : n < (L.map (·.1)).length := by simpa using hlt
        have h1 : (L.map (·.1))[i] = (L.map (·.1))[n] := by simp [he, hLn]
        rcases Nat.lt_or_gt_of_ne e with hlt | hlt
        · exact (List.pairwise_iff_getElem.1 q.nd n i hn2 hi2 hlt) h1.symm
        · exact (List.pairwise_iff_getElem.1 q.nd i n hi2 hn2 hlt) h1
      exact ⟨T, by rw [k.same _ (Blk.lt ⟨T, hT⟩) (by simpa using hne)]; exact hT⟩
theorem Env.store {v : Value} {k : Heap → Prop} (q : Env h0 h L) (n i : Nat) {a : Addr} {b : Nat} {cs : List Value} (ha : a = ⟨b, i, none⟩) (hn : L[n]? = some (b, cs)) (hi : i < cs.length) (K : ∀ h', Env h0 h' (L.set n (b, cs.set i v)) → k h') : Lift.amL a v h k := by
  subst ha
  have qb := q.blk n hn
  obtain ⟨T, hT⟩ := qb
  have qb : Blk h b cs := ⟨T, hT⟩
  refine ⟨⟨cs[i], by rw [qb.cell]; exact List.getElem?_eq_getElem hi⟩, jF hT, K _ (q.upd n hn (Keep.setCell h ⟨b, i, none⟩ v) ⟨T, ?_⟩)⟩
  have := wH (i := i) hT v
  simpa using this
theorem Env.store0 {v : Value} {k : Heap → Prop} {b : Nat} {cs : List Value} (q : Env h0 h ((b, cs) :: L)) (i : Nat) {a : Addr} (ha : a = ⟨b, i, none⟩) (hi : i < cs.length) (K : ∀ h', Env h0 h' ((b, cs.set i v) :: L) → k h') : Lift.amL a v h k :=
  q.store 0 i ha rfl hi K
theorem Env.store1 {x : Nat × List Value} {v : Value} {k : Heap → Prop} {b : Nat} {cs : List Value} (q : Env h0 h (x :: (b, cs) :: L)) (i : Nat) {a : Addr} (ha : a = ⟨b, i, none⟩) (hi : i < cs.length) (K : ∀ h', Env h0 h' (x :: (b, cs.set i v) :: L) → k h') : Lift.amL a v h k :=
  q.store 1 i ha rfl hi K
theorem Env.storeS {vs : List Value} {k : Heap → Prop} (q : Env h0 h L) (n : Nat) {a : Addr} {b : Nat} {cs : List Value} (ha : a = ⟨b, 0, none⟩) (hn : L[n]? = some (b, cs)) (hl : vs.length = cs.length) (K : ∀ h', Env h0 h' (L.set n (b, vs)) → k h') : dk a vs h k := by
  subst ha
  obtain ⟨T, hT⟩ := q.blk n hn
  obtain ⟨c', h1, h2, _, h4, h5⟩ := mq vs 0 0 h cs.toArray hT (by simp; omega)
  refine ⟨h5, K _ (q.upd n hn (nL ⟨b, 0, none⟩ vs 0 h) ⟨T, ?_⟩)⟩
  rw [h1]
  have : c' = vs.toArray := by
    apply Array.ext_getElem?
    intro i
    rcases Nat.lt_or_ge i vs.length with hi | hi
    · have := h4 i hi
      simp only [Nat.zero_add] at this
      rw [this]; simp [hi]
    · rw [Array.getElem?_eq_none (by rw [h2]; simp; omega), Array.getElem?_eq_none (by simpa using hi)]
  rw [this]
theorem Env.storeS0 {vs : List Value} {k : Heap → Prop} {b : Nat} {cs : List Value} (q : Env h0 h ((b, cs) :: L)) (hl : vs.length = cs.length) (K : ∀ h', Env h0 h' ((b, vs) :: L) → k h') : Lift.dk ⟨b, 0, none⟩ vs h k :=
  q.storeS 0 rfl rfl hl K
end Go.Sh.Nw

namespace Go.Sh.Nw
open Go Go.Lift
variable {h0 h : Heap} {L : List (Nat × List Value)}
abbrev P0 : Int × Int × Sl × Sl × Sl × Sl × Sl := (0, 0, Sl.nil, Sl.nil, Sl.nil, Sl.nil, Sl.nil)
abbrev P0V : List Value := [Value.int .i64 0, Value.int .i64 0, Sl.toV Sl.nil, Sl.toV Sl.nil, Sl.toV Sl.nil, Sl.toV Sl.nil, Sl.toV Sl.nil]
theorem Env.drop {x : Nat × List Value} (q : Env h0 h (x :: L)) : Env h0 h L :=
  ⟨q.ext, fun y hy => q.ge y (List.mem_cons_of_mem _ hy), (List.nodup_cons.1 (by simpa using q.nd)).2, fun y hy => q.at' y (List.mem_cons_of_mem _ hy)⟩
theorem Env.mk0 {z : List Value} {bytes : Nat} {a b : Int} (q : Env h0 h L) {k : Sl → Heap → Prop} (ha : a = 0) (hb : b = 0) (K : ∀ s h', s.len = 0 → Env h0 h' L → k s h') : mkS z bytes a b h k := by
  subst ha hb
  exact ⟨⟨by omega, by omega, by omega⟩, fun T => K _ _ rfl (q.more (Ext.push _ _))⟩
theorem aiB {f : Addr} {Q : Bool → Heap → Prop} (K : Q false h) : aB Sl.nil f h Q := by
  unfold aB bY
  exact lO fun _ => iteF rfl K
theorem aix {f : Addr} {Q : Bool → Heap → Prop} (K : Q false h) : aw Sl.nil f h Q := by
  unfold aw aT
  exact lO fun _ => iteF rfl K
theorem aht {f : Addr} {Q : Bool → Heap → Prop} (K : Q false h) : ar Sl.nil f h Q := by
  unfold ar aU
  exact lO fun _ => iteF rfl K
theorem ahk {p} {Q : FnV → Heap → Prop} (q : Env h0 h L) (K : ∀ f h', Env h0 h' L → Q f h') : jO p h Q :=
  q.new fun _ _ q1 => K _ _ q1.drop
theorem Env.newM (q : Env h0 h L) {k : Option Nat → Heap → Prop} (K : ∀ m h', Env h0 h' L → k m h') : newM h k := K _ _ (q.more (Ext.push _ _))
theorem aeH {p} {Q : FnV → Heap → Prop} (q : Env h0 h L) (K : ∀ f h', Env h0 h' L → Q f h') : cA p h Q :=
  q.new fun _ _ q1 => q1.drop.newM fun _ _ q2 => q2.new fun _ _ q3 => q3.store0 0 rfl (by decide) fun _ q4 => K _ _ q4.drop
theorem ajh {Q : Bool → Heap → Prop} (K : ∀ h', Ext h h' → Q true h') : mB P0 h Q := by
  refine Env.start.new fun p h1 q1 => q1.new fun l h2 q2 => q2.store0 0 rfl (by decide) fun h3 q3 => ?_
  have q3 := q3.drop
  clear q1 q2
  refine seq.dup (q3.load 0 0 rfl rfl rfl (iteF rfl (q3.load 0 1 rfl rfl rfl (iteF rfl (q3.load 0 4 rfl rfl rfl (aiB ?_))))))
  refine iteF rfl (seq.cut (fun _ h' => Env h h' [(p, P0V)]) ?_ ?_)
  · refine q3.loadS (x := P0) 0 0 rfl rfl rfl rfl (q3.loadS (x := P0) 0 0 rfl rfl rfl rfl ?_)
    repeat' first
      | exact Env.cells (by assumption) 0 0 7 rfl rfl rfl rfl
      | exact Env.cells (by assumption) 1 0 7 rfl rfl rfl rfl
      | exact Env.cells (by assumption) 2 0 7 rfl rfl rfl rfl
      | exact Env.drop (by assumption)
      | exact Env.drop (Env.drop (by assumption))
      | refine ahk (by assumption) fun _ _ _ => ?_
      | refine aeH (by assumption) fun _ _ _ => ?_
      | refine Env.new (by assumption) fun _ _ _ => ?_
      | refine Env.store0 (by assumption) 0 rfl (by decide) fun _ _ => ?_
      | refine Env.store1 (by assumption) 0 rfl (by decide) fun _ _ => ?_
      | apply And.intro
  rintro ⟨r, a⟩ h4 q4
  refine seq.dup (q4.load 0 2 rfl rfl rfl (aix (iteT rfl (q4.load 0 3 rfl rfl rfl (aht ?_)))))
  exact K _ q4.ext
theorem aeZ {Q : Sl × Sl × Sl × Sl × Sl × Sl × Sl × Int → Heap → Prop} (q : Env h0 h L)
    (K : ∀ w a b c h', w.len = 0 → a.len = 0 → b.len = 0 → c.len = 0 → Env h0 h' L → Q (Sl.nil, w, a, b, c, Sl.nil, Sl.nil, 0) h') : jE 0 h Q := by
  refine q.mem fun h1 q1 => ?_
  rintro n hn
  have hn : n = 0 := hn
  subst hn
  refine seq.cut (fun t h' => ∃ w a b c, t = (Sl.nil, w, a, b, c, Sl.nil, Sl.nil, 0) ∧ w.len = 0 ∧ a.len = 0 ∧ b.len = 0 ∧ c.len = 0 ∧ Env h0 h' L) ?_ ?_
  · clear q K
    repeat' first
      | exact ⟨_, _, _, _, rfl, by assumption, by assumption, by assumption, by assumption, by assumption⟩
      | refine Env.mem (L := L) (h0 := h0) (by assumption) fun _ _ => ?_
      | refine Env.mk0 (L := L) (h0 := h0) (by assumption) (by decide) (by decide) fun _ _ _ _ => ?_
      | apply And.intro
  rintro _ h2 ⟨w, a, b, c, rfl, hw, ha, hb, hc, q2⟩
  refine lO fun _ => iteF (ad9 hc) ?_
  exact K w a b c h2 hw ha hb hc q2
theorem agV {Q : Sl × Sl → Heap → Prop} (q : Env h0 h L) (K : ∀ s h', s.len = 0 → Env h0 h' L → Q (s, Sl.nil) h') : fD 0 h Q := by
  refine q.mem fun h1 q1 => ?_
  rintro n hn
  have hn : n = 0 := hn
  subst hn
  refine q1.mk0 rfl rfl fun s h2 hs q2 => q2.mem fun h3 q3 => lO fun _ => iteF rfl ?_
  exact K s h3 hs q3
theorem adh {Q : Sl × Sl × Sl × Sl × Sl → Heap → Prop} (q : Env h0 h L) (K : ∀ a b c h', a.len = 0 → b.len = 0 → c.len = 0 → Env h0 h' L → Q (Sl.nil, Sl.nil, a, b, c) h') : aX P0 h Q := by
  refine q.mem fun h1 q1 => ?_
  rintro n hn
  have hn : n = 0 := hn
  subst hn
  refine lO fun _ => iteF rfl (iteT rfl ?_)
  refine seq.cut (fun t h' => ∃ a b c, t = (Sl.nil, Sl.nil, a, b, c) ∧ a.len = 0 ∧ b.len = 0 ∧ c.len = 0 ∧ Env h0 h' L) ?_ ?_
  · clear q K
    repeat' first
      | exact ⟨_, _, _, rfl, by assumption, by assumption, by assumption, by assumption⟩
      | refine Env.mk0 (L := L) (h0 := h0) (by assumption) (by decide) (by decide) fun _ _ _ _ => ?_
      | apply And.intro
  rintro _ h2 ⟨a, b, c, rfl, ha, hb, hc, q2⟩
  exact K a b c h2 ha hb hc q2
end Go.Sh.Nw

namespace Go.Sh.Nw
open Go Go.Lift
variable {h0 h : Heap} {L : List (Nat × List Value)}
abbrev St33 := Int × Int × Sl × Sl × Sl × Sl × Sl × Int × Int × Sl × Sl × Sl × Sl × Sl × Sl × Sl × Int × Sl × Sl × Sl × Sl × Sl × Sl × Sl × Sl × Int × Sl × Int × Int × Int × Int × Int × Int
abbrev stT (w a b c s ta tb tc ph : Sl) (n k v : Int) : St33 :=
  (0, 0, Sl.nil, Sl.nil, Sl.nil, Sl.nil, Sl.nil, 2, 0, Sl.nil, w, a, b, c, Sl.nil, Sl.nil, 0, s, Sl.nil, Sl.nil, Sl.nil, ta, tb, tc, Sl.nil, 0, ph, n, 0, 0, 0, k, v)
abbrev toI (n : Int) : Value := Value.int .i64 n
abbrev stV (w a b c s ta tb tc ph : Sl) (n k v : Int) : List Value :=
  [toI 0, toI 0, Sl.toV Sl.nil, Sl.toV Sl.nil, Sl.toV Sl.nil, Sl.toV Sl.nil, Sl.toV Sl.nil, toI 2, toI 0, Sl.toV Sl.nil, Sl.toV w, Sl.toV a, Sl.toV b, Sl.toV c, Sl.toV Sl.nil, Sl.toV Sl.nil, toI 0, Sl.toV s, Sl.toV Sl.nil, Sl.toV Sl.nil, Sl.toV Sl.nil, Sl.toV ta, Sl.toV tb, Sl.toV tc, Sl.toV Sl.nil, toI 0, Sl.toV ph, toI n, toI 0, toI 0, toI 0, toI k, toI v]
theorem akV {Q : St33 × Int → Heap → Prop} (K : ∀ w a b c s ta tb tc ph k h', (w.len = 0 ∧ a.len = 0 ∧ b.len = 0 ∧ c.len = 0 ∧ s.len = 0 ∧ ta.len = 0 ∧ tb.len = 0 ∧ tc.len = 0 ∧ ph.len = 0 ∧ k = 64) → Ext h h' → Q (stT w a b c s ta tb tc ph 0 k 0, 0) h') : mV P0 (2, 0) h Q := by
  refine Env.start.mem fun h1 q1 => ?_
  refine seq.dup (ajh fun h2 e2 => iteF rfl ?_)
  refine iteF rfl ?_
  have q2 := q1.more e2
  clear q1
  refine seq.cut (fun t h' => ∃ w a b c s ta tb tc ph k p, Env h h' [(p, stV w a b c s ta tb tc ph 0 k 0)] ∧ t = ⟨p, 0, none⟩ ∧ w.len = 0 ∧ a.len = 0 ∧ b.len = 0 ∧ c.len = 0 ∧ s.len = 0 ∧ ta.len = 0 ∧ tb.len = 0 ∧ tc.len = 0 ∧ ph.len = 0 ∧ k = 64) ?_ ?_
  · clear K
    repeat' first
      | refine aeZ (h0 := h) (by assumption) fun _ _ _ _ _ _ _ _ _ _ => ?_
      | refine agV (h0 := h) (by assumption) fun _ _ _ _ => ?_
      | refine adh (h0 := h) (by assumption) fun _ _ _ _ _ _ _ _ => ?_
      | refine Env.mk0 (h0 := h) (by assumption) rfl rfl fun _ _ _ _ => ?_
      | refine Env.new (h0 := h) (by assumption) fun _ _ _ => ?_
      | refine Env.storeS0 (h0 := h) (by assumption) (by rfl) fun _ _ => ?_
      | apply And.intro
      | exact ⟨_, _, _, _, _, _, _, _, _, _, _, by assumption, rfl, by assumption, by assumption, by assumption, by assumption, by assumption, by assumption, by assumption, by assumption, by assumption, by rfl⟩
  rintro _ h3 ⟨w, a, b, c, s, ta, tb, tc, ph, k, p, q3, rfl, ha⟩
  refine lO fun _ => iteF rfl (lO fun _ => iteF rfl ?_)
  exact q3.loadS (x := stT w a b c s ta tb tc ph 0 k 0) 0 0 rfl rfl rfl rfl (K w a b c s ta tb tc ph k h3 ha q3.ext)
end Go.Sh.Nw

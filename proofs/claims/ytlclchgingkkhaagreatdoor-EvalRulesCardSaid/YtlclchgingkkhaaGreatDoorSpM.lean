/-
  Laws that the proof of this claim's statement leans on, each proved under the conditions that it states.
-/
import Derived.Test.YtlclchgingkkhaaGreatDoorSpK
import Derived.Test.YtlclchgingkkhaaGreatDoorSpL
set_option linter.unusedVariables false
set_option linter.unusedSimpArgs false
namespace Go.Sh
open Go Go.Lift
theorem newJ {h : Heap} {cs : List Value} {ks : List Int} {k : Addr → Heap → Prop} (n : Nat) (hn : n = ks.length) (hcs : cs = ks.map (Value.int .i64)) (K : ∀ a h', RJ h' ⟨some a, n, n⟩ ks → a.block = h.size → h.size < h'.size → Ext h h' → k a h') : new cs h k := by
  subst hn
  intro T
  exact K _ _ (Own.new (h := h) (T := T) hcs).r rfl (by simp) (Ext.push _ _)
theorem newB {h : Heap} {cs : List Value} {ks : List Bool} {k : Addr → Heap → Prop} (n : Nat) (hn : n = ks.length) (hcs : cs = ks.map Value.bool) (K : ∀ a h', R Value.bool h' ⟨some a, n, n⟩ ks → a.block = h.size → h.size < h'.size → Ext h h' → k a h') : new cs h k := by
  subst hn
  intro T
  exact K _ _ (Own.new (h := h) (T := T) hcs).r rfl (by simp) (Ext.push _ _)
theorem newR3 {h : Heap} {cs : List Value} {xs : List X3} {k : Addr → Heap → Prop} (n : Nat) (hn : n = xs.length) (hcs : cs = (xs.map C_bool_sl_sl).flatten) (K : ∀ a h', RS C_bool_sl_sl 3 h' ⟨some a, n, n⟩ xs → a.block = h.size → h.size < h'.size → Ext h h' → k a h') : new cs h k := by
  intro T
  exact K _ _ (RS.new bool_sl_sl_len hn hcs) rfl (by simp) (Ext.push _ _)
theorem szQ_zero : szQ (0 : Rat) = 0 := by
  have : szQ ((0 : Int) : Rat) = 0 := by unfold szQ; rw [dn_int, rat_int_num, nl_zero]; simp [nl_zero]
  simpa using this
theorem szQ_small {n : Int} (h : n.natAbs < 4294967296) : szQ (n : Rat) ≤ 1 := by
  unfold szQ
  rw [dn_int, rat_int_num, nl_zero]
  have : nl n.natAbs ≤ 1 := nl_le_iff.2 (by omega)
  omega
theorem NE.num {h : Heap} {r : X3} {q : Rat} (hq : RQ h r q) (hs : szQ q ≤ 100) : ∃ xs ys, isQL r.1 xs ys ∧ NE h (5, 0, Sl.nil, r.1, r.2.1, r.2.2) ⟨5, 0, [], r.1, xs, ys⟩ ⟨5, 0, [], q⟩ := by
  obtain ⟨xs, ys, hX, v1, v2, l1, l2⟩ := hq.xr
  have := nl_num_le q; have := nl_dn_le q
  exact ⟨xs, ys, (hX.isQ_iff (by omega) (by omega)).1 ⟨q, hq⟩, ⟨rfl, rfl, R.nil, rfl, hX, by simp, by dsimp only; omega, by dsimp only; omega⟩, rfl, rfl, rfl, fun _ => hq⟩
theorem NE.other {h : Heap} {op var : Int} {s : Sl} {ks : List Int} (ho : op ≠ 5) (hk : RJ h s ks) (hl : ks.length ≤ 1000) : NE h (op, var, s, false, Sl.nil, Sl.nil) ⟨op, var, ks, false, [], []⟩ ⟨op, var, ks, 0⟩ :=
  ⟨⟨rfl, rfl, hk, rfl, XR.none, hl, Nat.zero_le _, Nat.zero_le _⟩, rfl, rfl, rfl, fun h => absurd h ho⟩
theorem addE_leaf5 {t : Tm} {b : Bool} {xs ys : List Nat} (h : isQL b xs ys) : addE t ⟨5, 0, [], b, xs, ys⟩ = 0 := by
  have h1 : leafOk t ⟨5, 0, [], b, xs, ys⟩ := by unfold leafOk; exact ⟨by simp, by simpa using h⟩
  simp only [addE, show shp 5 = some (0, 0, 0, 2) by rfl]
  rw [if_neg (fun h => h h1), if_neg (by simp), if_neg (by simp)]
  have : sortedV t.S ⟨5, 0, [], b, xs, ys⟩ (0, 0, 0, 2) = 2 := rfl
  rw [this]
  simp [freeV]
theorem EO.num {lim nb nr : Nat} {vals : List EV} {q : Rat} (hs : ∀ e ∈ vals, szQ e.2 ≤ 40) : EO lim nb nr vals ⟨5, 0, [], q⟩ :=
  ⟨⟨by simp, by simp⟩, nofun, by simp, fun h => absurd h (by simp), fun h => absurd h (by simp), fun h => absurd h (by simp), fun h => absurd h (by simp), fun h => absurd h (by simp), hs⟩
theorem EO.log {lim nb nr : Nat} {vals : List EV} {op : Int} {ks : List Int} (ho : 6 ≤ op ∧ op ≤ 17 ∧ op ≠ 11) (hk : ∀ k ∈ ks, 0 ≤ k ∧ k < (vals.length : Int)) (h1 : 1 ≤ ks.length) (hl : ks.length ≤ 1000) (hs : ∀ e ∈ vals, szQ e.2 ≤ 40) : EO lim nb nr vals ⟨op, 0, ks, 0⟩ :=
  ⟨⟨by dsimp only; omega, by dsimp only; omega⟩, hk, hl, fun h => by dsimp only at h; omega, fun h => by dsimp only at h; omega, fun _ => h1, fun h => absurd h ho.2.2, fun h => by dsimp only at h; omega, hs⟩
variable {h : Heap}
theorem speaks10uspec {Q : Bool → Heap → Prop} (ht : Tab h) (K : ∀ h', Ext h h' → Q true h') : law10uspeaks h Q := by
  refine OfQ (n := 1) (by decide) (by decide) fun r1 h1 q1 _ e1 => OfQ (n := 2) (by decide) (by decide) fun r2 h2 q2 _ e2 => OfQ (n := 3) (by decide) (by decide) fun r3 h3 q3 _ e3 => ?_
  refine newJ (ks := [0, 1, 2]) 3 rfl rfl fun a h4 ra _ _ e4 => ?_
  refine newRS (toC := C6) (sz := 6) (xs := [(5, 0, Sl.nil, r1.1, r1.2.1, r1.2.2), (5, 0, Sl.nil, r2.1, r2.2.1, r2.2.2), (5, 0, Sl.nil, r3.1, r3.2.1, r3.2.2), (14, 0, ⟨some a, 3, 3⟩, false, Sl.nil, Sl.nil)]) 4 lenC6 rfl rfl fun l h5 rl _ e5 => ?_
  rintro _ rfl
  refine New_spec fun b h6 hb hab e6 => ?_
  have e35 := e4.trans e5
  have e25 := e3.trans e35
  have e05 := e1.trans (e2.trans e25)
  obtain ⟨x1, y1, i1, n1⟩ := NE.num (q1.ext (e2.trans e25)) (Nat.le_trans (szQ_small (by decide)) (by decide))
  obtain ⟨x2, y2, i2, n2⟩ := NE.num (q2.ext e25) (Nat.le_trans (szQ_small (by decide)) (by decide))
  obtain ⟨x3, y3, i3, n3⟩ := NE.num (q3.ext e35) (Nat.le_trans (szQ_small (by decide)) (by decide))
  have n4 := NE.other (op := 14) (var := 0) (by decide) (R.ext ra e5) (by decide)
  refine All_spec (hN := h5) (lim := 1) (N := [⟨5, 0, [], r1.1, x1, y1⟩, ⟨5, 0, [], r2.1, x2, y2⟩, ⟨5, 0, [], r3.1, x3, y3⟩, ⟨14, 0, [0, 1, 2], false, [], []⟩]) (E := [⟨5, 0, [], ((1 : Int) : Rat)⟩, ⟨5, 0, [], ((2 : Int) : Rat)⟩, ⟨5, 0, [], ((3 : Int) : Rat)⟩, ⟨14, 0, [0, 1, 2], 0⟩]) (bs := []) (rs := []) (ys := [])
    ⟨R.ext ht e05, hb, e6, Nat.le_of_eq hab.symm⟩ rl (by simp) rfl rfl (fun i hi => ?_) R.nil nofun ⟨rfl, fun i hi => by simp at hi⟩ nofun .nil (by decide) nofun ?_ ?_ ?_
  · match i, hi with
    | 0, _ => exact n1
    | 1, _ => exact n2
    | 2, _ => exact n3
    | 3, _ => exact n4
    | n + 4, hi => simp at hi; omega
  · intro i hi
    match i, hi with
    | 0, _ => exact addE_leaf5 i1
    | 1, _ => exact addE_leaf5 i2
    | 2, _ => exact addE_leaf5 i3
    | 3, _ => exact okB_add (by show okB ⟨0, 0, [2, 2, 2], [true, true, true]⟩ ⟨14, 0, [0, 1, 2], false, [], []⟩ = true; decide)
    | n + 4, hi => simp at hi; omega
  · have z1 : szQ ((1 : Int) : Rat) ≤ 1 := szQ_small (by decide)
    have z2 : szQ ((2 : Int) : Rat) ≤ 1 := szQ_small (by decide)
    have z3 : szQ ((3 : Int) : Rat) ≤ 1 := szQ_small (by decide)
    intro i hi
    match i, hi with
    | 0, _ => exact EO.num nofun
    | 1, _ => exact EO.num (vals := [(false, ((1 : Int) : Rat))]) fun e he => by simp only [List.mem_cons, List.not_mem_nil, or_false] at he; subst he; dsimp only; omega
    | 2, _ => exact EO.num (vals := [(false, ((1 : Int) : Rat)), (false, ((2 : Int) : Rat))]) fun e he => by simp only [List.mem_cons, List.not_mem_nil, or_false] at he; rcases he with rfl | rfl <;> dsimp only <;> omega
    | 3, _ => exact EO.log (vals := [(false, ((1 : Int) : Rat)), (false, ((2 : Int) : Rat)), (false, ((3 : Int) : Rat))]) (by decide) (by simp) (by simp) (by simp) fun e he => by simp only [List.mem_cons, List.not_mem_nil, or_false] at he; rcases he with rfl | rfl | rfl <;> dsimp only <;> omega
    | n + 4, hi => simp at hi; omega
  · intro w h7 b7 k7 v7 _
    have hl := v7.len
    rw [valsAt_len _ _ _ _ (by simp)] at hl
    have e7 : Ext h h7 := e05.trans b7.ext
    refine seq.cut (fun (t : Bool) h' => t = true ∧ h' = h7) ?_ ?_
    · refine ⟨fun _ => ⟨fun _ => ?_, fun g => ?_⟩, fun g => absurd g (by simp)⟩
      · refine v7.at (j := 3) rfl (by rw [valsAt_len _ _ _ _ (by simp)]; simp) fun a y hc hy => ⟨_, cell_t hc, ?_, rfl⟩
        rw [hy.t]
        show logicV 14 [(false, ((1 : Int) : Rat)), (false, ((2 : Int) : Rat)), (false, ((3 : Int) : Rat))] = true
        decide +kernel
      · have hl : w.len = 4 := hl
        dsimp only at g
        rw [hl] at g
        exact absurd g (by decide)
    rintro t h' ⟨rfl, rfl⟩
    exact K _ e7
end Go.Sh

namespace Go.Sh
open Go Go.Lift
abbrev NL := Int × Int × List Int
structure NB (K : Nat → Prop) (h : Heap) (n : N6) (e : NL) : Prop where
  op : n.1 = e.1
  var : n.2.1 = e.2.1
  kids : RJ h n.2.2.1 e.2.2
  off : ∀ k, n.2.2.1.blk = some k → ¬ K k ∧ k < h.size
  neg : n.2.2.2 = (false, Sl.nil, Sl.nil)
theorem NB.keep {K : Nat → Prop} {h h' : Heap} {n : N6} {e : NL} {o : Option Nat} (q : NB K h n e) (k : Keep o h h') (ho : ∀ b, o = some b → K b) : NB K h' n e :=
  ⟨q.op, q.var, q.kids.keep k fun a ha e' => (q.off a.block (by unfold Sl.blk; rw [ha]; rfl)).1 (ho _ e'.symm), fun b hb => ⟨(q.off b hb).1, Nat.lt_of_lt_of_le (q.off b hb).2 k.size⟩, q.neg⟩
theorem NB.raise {K K' : Nat → Prop} {h : Heap} {n : N6} {e : NL} (q : NB K h n e) (hk : ∀ k, K' k → K k ∨ h.size ≤ k) : NB K' h n e :=
  ⟨q.op, q.var, q.kids, fun k hb => ⟨fun h' => by
    have := q.off k hb
    rcases hk k h' with h1 | h1
    · exact this.1 h1
    · omega, (q.off k hb).2⟩, q.neg⟩
theorem NB.push {K : Nat → Prop} {h h' : Heap} {s s' : Sl} {x : N6} {q : NL} (hx : NB (fun k => K k ∨ s.blk = some k) h x q) (e : Keep s.blk h h') (hb : s'.blk = s.blk ∨ ∀ b, s'.blk = some b → h.size ≤ b) : NB (fun k => K k ∨ s'.blk = some k) h' x q := by
  have h4 : NB (fun k => (K k ∨ s.blk = some k) ∨ s'.blk = some k) h x q := hx.raise fun k hk => by
    rcases hk with hk | hk
    · exact .inl hk
    · rcases hb with hb | hb
      · exact .inl (.inr (hb ▸ hk))
      · exact .inr (hb k hk)
  have h5 : NB (fun k => (K k ∨ s.blk = some k) ∨ s'.blk = some k) h' x q := h4.keep e fun k hk => .inl (.inr hk)
  exact ⟨h5.op, h5.var, h5.kids, fun k hk => ⟨fun h6 => (h5.off k hk).1 (h6.elim (fun h => .inl (.inl h)) .inr), (h5.off k hk).2⟩, h5.neg⟩
def ndL (e : NL) : Nd := ⟨e.1, e.2.1, e.2.2, false, [], []⟩
def enL (e : NL) : EN := ⟨e.1, e.2.1, e.2.2, 0⟩
theorem NB.ne {K : Nat → Prop} {h : Heap} {n : N6} {e : NL} (q : NB K h n e) (ho : e.1 ≠ 5) (hl : e.2.2.length ≤ 1000) : NE h n (ndL e) (enL e) := by
  obtain ⟨o, v, s, b⟩ := n
  obtain ⟨op, var, ks⟩ := e
  have h1 : o = op := q.op
  have h2 : v = var := q.var
  have h3 : b = (false, Sl.nil, Sl.nil) := q.neg
  subst h1 h2 h3
  exact NE.other ho q.kids hl
structure NS (h0 h : Heap) (lb : Nat) (w : Sl) (ns : List N6) (L : List NL) : Prop where
  env : Env h0 h [(lb, [Sl.toV w])]
  own : OwnS C6 6 h0.size h w ns
  ne : ∀ k, w.blk = some k → k ≠ lb
  all : All2 (NB (fun k => k = lb ∨ w.blk = some k) h) ns L
theorem NS.ext {h0 h h' : Heap} {lb : Nat} {w : Sl} {ns : List N6} {L : List NL} (q : NS h0 h lb w ns L) (e : Ext h h') : NS h0 h' lb w ns L :=
  ⟨q.env.more e, q.own.ext e, q.ne, q.all.imp fun _ _ p => p.keep e (by simp)⟩
def NT (h0 h : Heap) (lb : Nat) (L : List NL) : Prop := ∃ w ns, NS h0 h lb w ns L
theorem NT.add {h0 h : Heap} {lb : Nat} {A : List NL} {cs : List Value} {ks : List Int} {op : Int} {n : Nat} {Q : Int → Heap → Prop} (i : Nat) (q : NT h0 h lb (A.take i)) (hi : A[i]? = some (op, 0, ks)) (hn : n = ks.length) (hcs : cs = ks.map (Value.int .i64)) (hA : A.length ≤ 900)
    (K : ∀ h', NT h0 h' lb (A.take (i + 1)) → Q (i : Int) h') : new cs h fun a h' => law10uEvalRules_c1 op ⟨some a, n, n⟩ ⟨lb, 0, none⟩ h' Q := by
  obtain ⟨hi1, hi2⟩ := List.getElem?_eq_some_iff.1 hi
  obtain ⟨w, ns, q⟩ := q
  refine newJ n hn hcs fun a h1 ra hab alt0 e1 => ?_
  have q1 := q.ext e1
  have hl := q1.all.length
  rw [List.length_take] at hl
  have s1 := q.env.ext.size
  have s2 := e1.size
  have alt : a.block < h1.size := by omega
  refine q1.env.load (x := w) 0 0 rfl rfl rfl ?_
  refine q1.own.append1 (x := (op, 0, (⟨some a, n, n⟩ : Sl), false, Sl.nil, Sl.nil)) lenC6 (by decide) rfl (by omega) rfl (by omega) fun w' h2 o2 k2 hbk => ?_
  have hwl : ∀ k, w.blk = some k → h0.size ≤ k ∧ k ≠ lb := fun k hk => ⟨(q.own.lt hk).1, q.ne k hk⟩
  have q2 := q1.env.keepO k2 fun k hk => ⟨(hwl k hk).1, by simp; exact fun h => (hwl k hk).2 h.symm⟩
  have lbl := (q1.env.blk 0 rfl).lt
  have ne2 : ∀ k, w'.blk = some k → k ≠ lb := fun k hk => by
    rcases hbk with h3 | h3
    · exact (hwl k (h3 ▸ hk)).2
    · have := h3 k hk; omega
  have a2 : All2 (NB (fun k => k = lb ∨ w'.blk = some k) h2) (ns ++ [(op, 0, (⟨some a, n, n⟩ : Sl), false, Sl.nil, Sl.nil)]) (A.take (i + 1)) := by
    rw [List.take_succ_eq_append_getElem hi1, hi2]
    have P : NB (fun k => k = lb ∨ w.blk = some k) h1 (op, 0, (⟨some a, n, n⟩ : Sl), false, Sl.nil, Sl.nil) (op, 0, ks) :=
      ⟨rfl, rfl, ra, fun k hk => by
        have hk : k = a.block := by unfold Sl.blk at hk; simpa using hk.symm
        subst hk
        refine ⟨?_, alt⟩
        rintro (h5 | h5)
        · have := (q.env.blk 0 rfl).lt; omega
        · have := (q.own.lt h5).2; omega, rfl⟩
    exact (q1.all.imp fun _ _ p => p.push k2 hbk).append (.cons (P.push k2 hbk) .nil)
  refine q2.storeK 0 0 rfl rfl (by show 0 < 1; omega) fun h3 q3 k3 => ?_
  refine q3.load (x := w') 0 0 rfl rfl rfl ?_
  have hwl' := (o2.rs lenC6 (by decide)).len
  rw [List.length_append, List.length_singleton] at hwl'
  rw [w64 (by omega) (by omega), show ((w'.len : Nat) : Int) - 1 = (i : Int) by omega]
  exact K h3 ⟨w', _, q3, o2.keep k3 fun b hb => by have := ne2 b hb; simpa using this, ne2, a2.imp fun _ _ p => p.keep k3 fun b hb => by cases hb; exact .inl rfl⟩
end Go.Sh

namespace Go.Sh
open Go Go.Lift
def Lx : List NL := [(3,0,[]),(3,1,[]),(4,0,[]),(4,1,[]),(7,0,[0,1]),(6,0,[4]),(6,0,[0]),(6,0,[1]),(8,0,[6,7]),(12,0,[5,8]),(10,0,[0,1]),(6,0,[0]),(8,0,[11,1]),(12,0,[10,12]),(9,0,[0,1]),(13,0,[0,1]),(12,0,[14,15]),(13,0,[2,3]),(12,0,[2,3]),(6,0,[18]),(12,0,[17,19]),(14,0,[2,3]),(17,0,[2,3]),(6,0,[22]),(12,0,[21,23]),(16,0,[2,3]),(14,0,[3,2]),(12,0,[25,26]),(18,0,[2,3]),(19,0,[28,3]),(12,0,[29,2]),(11,0,[0,2,3]),(6,0,[0]),(11,0,[32,3,2]),(12,0,[31,33])]
def qx : List Int := [9, 13, 16, 20, 24, 27, 30, 34]
theorem adds_x : Adds ⟨((2 : Nat) : Int), ((2 : Nat) : Int), [], []⟩ (Lx.map ndL) := checkT_adds (by decide +kernel)
theorem sorts_x : ∀ k ∈ qx, atI (tms ⟨((2 : Nat) : Int), ((2 : Nat) : Int), [], []⟩ (Lx.map ndL) (Lx.map ndL).length).S k.toNat = 1 := by decide +kernel
theorem in_x : ∀ k ∈ qx, 0 ≤ k ∧ k < (((Lx.map enL).length : Nat) : Int) := by decide +kernel
theorem few_x : ∀ e ∈ Lx, e.1 ≠ 5 ∧ e.2.2.length ≤ 1000 := by decide +kernel
def Vx (p q : Bool) (x y : Rat) : List EV :=
  [(p, 0), (q, 0), (false, x), (false, y), (logicV 7 [(p, 0), (q, 0)], 0), (logicV 6 [(logicV 7 [(p, 0), (q, 0)], 0)], 0), (logicV 6 [(p, 0)], 0), (logicV 6 [(q, 0)], 0), (logicV 8 [(logicV 6 [(p, 0)], 0), (logicV 6 [(q, 0)], 0)], 0),
   (logicV 12 [(logicV 6 [(logicV 7 [(p, 0), (q, 0)], 0)], 0), (logicV 8 [(logicV 6 [(p, 0)], 0), (logicV 6 [(q, 0)], 0)], 0)], 0),
   (logicV 10 [(p, 0), (q, 0)], 0), (logicV 6 [(p, 0)], 0), (logicV 8 [(logicV 6 [(p, 0)], 0), (q, 0)], 0), (logicV 12 [(logicV 10 [(p, 0), (q, 0)], 0), (logicV 8 [(logicV 6 [(p, 0)], 0), (q, 0)], 0)], 0),
   (logicV 9 [(p, 0), (q, 0)], 0), (logicV 13 [(p, 0), (q, 0)], 0), (logicV 12 [(logicV 9 [(p, 0), (q, 0)], 0), (logicV 13 [(p, 0), (q, 0)], 0)], 0),
   (logicV 13 [(false, x), (false, y)], 0), (logicV 12 [(false, x), (false, y)], 0), (logicV 6 [(logicV 12 [(false, x), (false, y)], 0)], 0), (logicV 12 [(logicV 13 [(false, x), (false, y)], 0), (logicV 6 [(logicV 12 [(false, x), (false, y)], 0)], 0)], 0),
   (logicV 14 [(false, x), (false, y)], 0), (logicV 17 [(false, x), (false, y)], 0), (logicV 6 [(logicV 17 [(false, x), (false, y)], 0)], 0), (logicV 12 [(logicV 14 [(false, x), (false, y)], 0), (logicV 6 [(logicV 17 [(false, x), (false, y)], 0)], 0)], 0),
   (logicV 16 [(false, x), (false, y)], 0), (logicV 14 [(false, y), (false, x)], 0), (logicV 12 [(logicV 16 [(false, x), (false, y)], 0), (logicV 14 [(false, y), (false, x)], 0)], 0),
   (false, x + y), (false, x + y - y), (logicV 12 [(false, x + y - y), (false, x)], 0),
   (if p then (false, x) else (false, y)), (logicV 6 [(p, 0)], 0), (if logicV 6 [(p, 0)] then (false, y) else (false, x)), (logicV 12 [(if p then (false, x) else (false, y)), (if logicV 6 [(p, 0)] then (false, y) else (false, x))], 0)]
theorem valsAt_run {bs : List Bool} {rs : List Rat} {E : List EN} {V : List EV} (h : ∀ i (hi : i < E.length), V[i]? = some (evalV bs rs (V.take i) E[i])) : ∀ i, i ≤ E.length → valsAt bs rs E i = V.take i
  | 0, _ => rfl
  | i + 1, hi => by
    rw [valsAt_succ bs rs (by omega : i < E.length), valsAt_run h i (by omega)]
    obtain ⟨h1, h2⟩ := List.getElem?_eq_some_iff.1 (h i (by omega))
    rw [List.take_succ_eq_append_getElem h1, h2]
theorem run_x (p q : Bool) (x y : Rat) : ∀ i (hi : i < (Lx.map enL).length), (Vx p q x y)[i]? = some (evalV [p, q] [x, y] ((Vx p q x y).take i) (Lx.map enL)[i]) := by
  intro i hi
  have hi : i < 35 := hi
  match i, hi with
  | 0, _ => rfl
  | 1, _ => rfl
  | 2, _ => rfl
  | 3, _ => rfl
  | 4, _ => rfl
  | 5, _ => rfl
  | 6, _ => rfl
  | 7, _ => rfl
  | 8, _ => rfl
  | 9, _ => rfl
  | 10, _ => rfl
  | 11, _ => rfl
  | 12, _ => rfl
  | 13, _ => rfl
  | 14, _ => rfl
  | 15, _ => rfl
  | 16, _ => rfl
  | 17, _ => rfl
  | 18, _ => rfl
  | 19, _ => rfl
  | 20, _ => rfl
  | 21, _ => rfl
  | 22, _ => rfl
  | 23, _ => rfl
  | 24, _ => rfl
  | 25, _ => rfl
  | 26, _ => rfl
  | 27, _ => rfl
  | 28, _ => rfl
  | 29, _ => rfl
  | 30, _ => rfl
  | 31, _ => rfl
  | 32, _ => rfl
  | 33, _ => rfl
  | 34, _ => rfl
  | n + 35, hi => omega
def okE (len : Nat) (v : EN) : Bool :=
  decide (3 ≤ v.op ∧ v.op ≤ 19) && v.kids.all (fun k => decide (0 ≤ k ∧ k < (len : Int))) && decide (v.kids.length ≤ 1000) && (decide (v.op ≠ 3) || decide (0 ≤ v.var ∧ v.var < 2)) && (decide (v.op ≠ 4) || decide (0 ≤ v.var ∧ v.var < 2)) && (decide (v.op < 6) || decide (1 ≤ v.kids.length)) &&
    (decide (v.op ≠ 11) || decide (v.kids.length = 3)) && (decide (v.op ≠ 18 ∧ v.op ≠ 19) || decide (v.kids.length = 2))
theorem okE_ok {lim len : Nat} {v : EN} {vals : List EV} (h : okE len v = true) (hl : vals.length = len) (hlim : 90 ≤ lim) (hs : ∀ e ∈ vals, szQ e.2 ≤ 40) : EO lim 2 2 vals v := by
  unfold okE at h
  simp only [Bool.and_eq_true, Bool.or_eq_true, decide_eq_true_eq, List.all_eq_true] at h
  obtain ⟨⟨⟨⟨⟨⟨⟨h1, h2⟩, h3⟩, h4⟩, h5⟩, h6⟩, h7⟩, h8⟩ := h
  refine ⟨h1, fun k hk => hl ▸ h2 k hk, h3, fun g => ?_, fun g => ?_, fun g => ?_, fun g => ?_, fun g => ?_, hs⟩
  · rcases h4 with h4 | h4
    · exact absurd g h4
    · exact h4
  · rcases h5 with h5 | h5
    · exact absurd g h5
    · exact h5
  · rcases h6 with h6 | h6
    · omega
    · exact h6
  · rcases h7 with h7 | h7
    · exact absurd g h7
    · exact h7
  · rcases h8 with h8 | h8
    · omega
    · exact ⟨h8, hlim⟩
theorem okE_x : ∀ i (hi : i < (Lx.map enL).length), okE i (Lx.map enL)[i] = true := by decide +kernel
theorem size_x {p q : Bool} {x y : Rat} (hx : szQ x ≤ 6) (hy : szQ y ≤ 6) : ∀ e ∈ Vx p q x y, szQ e.2 ≤ 40 := by
  have z := szQ_zero
  have h1 := sz_add x y
  have h2 := sz_sub (x + y) y
  unfold Vx
  simp only [List.forall_mem_cons, List.not_mem_nil, false_implies, implies_true, and_true, z]
  have w1 : ∀ b : Bool, szQ (if b = true then ((false, x) : EV) else (false, y)).2 ≤ 40 := fun b => by cases b <;> simp <;> omega
  have w2 : ∀ b : Bool, szQ (if b = true then ((false, y) : EV) else (false, x)).2 ≤ 40 := fun b => by cases b <;> simp <;> omega
  have w3 := w1 p
  have w4 := w2 (logicV 6 [(p, 0)])
  omega
theorem cmpR_neg (x y : Rat) : cmpR y x = - cmpR x y := by
  unfold cmpR
  rw [← Rat.neg_sub, Rat.neg_num, Int.sign_neg]
theorem same_zero (a b : Bool) : sameV (a, 0) (b, 0) = (a == b) := by
  unfold sameV
  cases a <;> cases b <;> simp
theorem eq12 (a b : EV) : logicV 12 [a, b] = sameV a b := by simp [logicV, sideV]
theorem rules_x (p q : Bool) (x y : Rat) : (qx.all fun k => ((Vx p q x y).getD k.toNat (false, 0)).1) = true := by
  have r1 : (logicV 12 [(logicV 6 [(logicV 7 [(p, 0), (q, 0)], 0)], 0), (logicV 8 [(logicV 6 [(p, 0)], 0), (logicV 6 [(q, 0)], 0)], 0)]) = true := by cases p <;> cases q <;> decide +kernel
  have r2 : (logicV 12 [(logicV 10 [(p, 0), (q, 0)], 0), (logicV 8 [(logicV 6 [(p, 0)], 0), (q, 0)], 0)]) = true := by cases p <;> cases q <;> decide +kernel
  have r3 : (logicV 12 [(logicV 9 [(p, 0), (q, 0)], 0), (logicV 13 [(p, 0), (q, 0)], 0)]) = true := by cases p <;> cases q <;> decide +kernel
  have r4 : (logicV 12 [(logicV 13 [(false, x), (false, y)], 0), (logicV 6 [(logicV 12 [(false, x), (false, y)], 0)], 0)]) = true := by
    rw [eq12, eq12, same_zero]
    show ((!false && (!(sameV (false, y) (false, x) || false) && true)) == !(sameV (false, x) (false, y))) = true
    have : sameV (false, y) (false, x) = sameV (false, x) (false, y) := by unfold sameV; simp [eq_comm]
    rw [this]
    cases sameV (false, x) (false, y) <;> rfl
  have r5 : (logicV 12 [(logicV 14 [(false, x), (false, y)], 0), (logicV 6 [(logicV 17 [(false, x), (false, y)], 0)], 0)]) = true := by
    rw [eq12, same_zero]
    show ((decide (cmpR x y < 0) && true) == !(decide (cmpR x y ≥ 0) && true)) = true
    by_cases h : cmpR x y < 0
    · simp [h, show ¬ 0 ≤ cmpR x y by omega]
    · simp [h, show 0 ≤ cmpR x y by omega]
  have r6 : (logicV 12 [(logicV 16 [(false, x), (false, y)], 0), (logicV 14 [(false, y), (false, x)], 0)]) = true := by
    rw [eq12, same_zero]
    show ((decide (cmpR x y > 0) && true) == (decide (cmpR y x < 0) && true)) = true
    rw [cmpR_neg x y]
    by_cases h : 0 < cmpR x y
    · simp [h, show - cmpR x y < 0 by omega]
    · simp [h, show ¬ - cmpR x y < 0 by omega]
  have r7 : (logicV 12 [(false, x + y - y), (false, x)]) = true := by
    rw [eq12, Rat.add_sub_cancel]
    unfold sameV; simp
  have r8 : (logicV 12 [(if p then (false, x) else (false, y)), (if logicV 6 [(p, 0)] then (false, y) else (false, x))]) = true := by
    rw [eq12]
    cases p
    · show sameV (false, y) (false, y) = true
      unfold sameV; simp
    · show sameV (false, x) (false, x) = true
      unfold sameV; simp
  show (_ && (_ && (_ && (_ && (_ && (_ && (_ && (_ && true)))))))) = true
  simp only [Bool.and_eq_true]
  exact ⟨r1, r2, r3, r4, r5, r6, r7, r8, trivial⟩
end Go.Sh

namespace Go.Sh
open Go Go.Lift
theorem OwnS.new {α : Type} {toC : α → List Value} {sz : Nat} {h : Heap} {T n : Nat} {cs : List Value} {xs : List α} (hsz : ∀ x, (toC x).length = sz) (hn : n = xs.length) (hcs : cs = flat toC xs) (hone : oneCells cs = true) : OwnS toC sz h.size (h.push (.cells cs.toArray T (0, 0))) ⟨some ⟨h.size, 0, none⟩, n, n⟩ xs := by
  subst hn
  obtain ⟨ys, hy⟩ := ones_of hone
  have := Own.new (toV := (Subtype.val : One → Value)) (ys := ys) (cs := cs) (h := h) (T := T) hy
  have hl := congrArg List.length hy
  rw [hcs, flat_len hsz, List.length_map] at hl
  refine ⟨rfl, ys, by rw [← hcs, hy], ?_⟩
  rw [← hl] at this
  exact this
abbrev c24 : List Value := [Value.int .i64 3, Value.int .i64 0, Sl.toV Sl.nil, Value.bool false, Sl.toV Sl.nil, Sl.toV Sl.nil, Value.int .i64 3, Value.int .i64 1, Sl.toV Sl.nil, Value.bool false, Sl.toV Sl.nil, Sl.toV Sl.nil, Value.int .i64 4, Value.int .i64 0, Sl.toV Sl.nil, Value.bool false, Sl.toV Sl.nil, Sl.toV Sl.nil, Value.int .i64 4, Value.int .i64 1, Sl.toV Sl.nil, Value.bool false, Sl.toV Sl.nil, Sl.toV Sl.nil]
def n0 (op var : Int) : N6 := (op, var, Sl.nil, false, Sl.nil, Sl.nil)
theorem NB.leaf {K : Nat → Prop} {h : Heap} {op var : Int} : NB K h (n0 op var) (op, var, []) := ⟨rfl, rfl, R.nil, nofun, rfl⟩
theorem NT.start {h : Heap} {k : Addr → Heap → Prop} (K : ∀ lb h', NT h h' lb (Lx.take 4) → k ⟨lb, 0, none⟩ h') : new c24 h fun a h1 => new [Sl.toV Sl.nil] h1 fun l h2 => Lift.store l (Sl.toV (⟨some a, 4, 4⟩ : Sl)) h2 fun h3 => k l h3 := by
  intro T
  have o1 := OwnS.new (toC := C6) (sz := 6) (h := h) (T := T) (n := 4) (cs := c24) (xs := [n0 3 0, n0 3 1, n0 4 0, n0 4 1]) lenC6 rfl rfl rfl
  have e1 : Ext h (h.push (.cells c24.toArray T (0, 0))) := Ext.push _ _
  have z1 : (h.push (.cells c24.toArray T (0, 0)) : Heap).size = h.size + 1 := by simp
  generalize (h.push (.cells c24.toArray T (0, 0)) : Heap) = h1 at *
  have q1 : Env h h1 [] := Env.start.more e1
  intro T2
  have hT : (h1.push (.cells [Sl.toV Sl.nil].toArray T2 (0, 0)) : Heap)[h1.size]? = some (.cells [Sl.toV Sl.nil].toArray T2 (0, 0)) := Array.getElem?_push_size
  have e2 : Ext h1 (h1.push (.cells [Sl.toV Sl.nil].toArray T2 (0, 0))) := Ext.push _ _
  have q2 : Env h (h1.push (.cells [Sl.toV Sl.nil].toArray T2 (0, 0))) [(h1.size, [Sl.toV Sl.nil])] :=
    ⟨q1.ext.trans e2, fun x hx => by simp at hx; subst hx; exact q1.ext.size, by simp, fun x hx => by simp at hx; subst hx; exact ⟨T2, hT⟩⟩
  generalize (h1.push (.cells [Sl.toV Sl.nil].toArray T2 (0, 0)) : Heap) = h2 at *
  refine q2.storeK 0 0 rfl rfl (by show 0 < 1; omega) fun h3 q3 k3 => K h1.size h3 ⟨_, _, q3, (o1.ext e2).keep k3 ?_, ?_, .cons NB.leaf (.cons NB.leaf (.cons NB.leaf (.cons NB.leaf .nil)))⟩
  · intro b hb
    have hb : b = h.size := by simpa [Sl.blk] using hb.symm
    simp; omega
  · intro b hb
    have hb : b = h.size := by simpa [Sl.blk] using hb.symm
    omega
theorem NS.keepC {h0 h h' : Heap} {lb : Nat} {w : Sl} {ns : List N6} {L : List NL} (q : NS h0 h lb w ns L) (e : Ext h h') : cell? h' ⟨lb, 0, none⟩ = some (Sl.toV w) := by rw [((q.ext e).env.blk 0 rfl).cell]; rfl
variable {h : Heap}
theorem fin_x {hN h : Heap} {b a1 a2 : Addr} {w : Sl} {ns : List N6} {eqs : Sl} {p q : Bool} {x y : X3} {px qx' : Rat} {Q : Bool × Int → Heap → Prop} (hv : BB hN b 200 h) (rn : RS C6 6 hN w ns) {Kx : Nat → Prop} (al : All2 (NB Kx hN) ns Lx)
    (hq : RJ hN eqs qx) (hb : R Value.bool h ⟨some a1, 2, 2⟩ [p, q]) (hb1 : a1.block ≠ b.block) (hr : RS C_bool_sl_sl 3 h ⟨some a2, 2, 2⟩ [x, y]) (hr1 : a2.block ≠ b.block) (hx : RQ hN x px) (hy : RQ hN y qx') (sp : szQ px ≤ 6) (sq : szQ qx' ≤ 6)
    (K : ∀ h', Ext hN h' → Q (true, 0) h') : eval_True (some b) (Sl.nil, Sl.nil, w, eqs, false, false) ⟨some a1, 2, 2⟩ ⟨some a2, 2, 2⟩ h fun v h' => Q (v.1, v.2) h' := by
  have al' := al.length
  have l35 : Lx.length = 35 := rfl
  have run := valsAt_run (run_x p q px qx')
  have vl : (Vx p q px qx').length = 35 := rfl
  have el : (Lx.map enL).length = 35 := rfl
  refine True_spec (N := Lx.map ndL) (E := Lx.map enL) (bs := [p, q]) (rs := [px, qx']) (ys := [x, y]) (ks := qx) hv rn (by omega) (by rw [List.length_map]; omega) (by rw [List.length_map]; omega) (fun i hi => ?_) hb (fun a ha => by cases ha; exact hb1) hr (fun a ha => by cases ha; exact hr1)
    (.cons hx (.cons hy .nil)) (by simp) (fun r hr => ?_) adds_x (fun i hi => ?_) hq (by decide) in_x sorts_x fun h' e' => ?_
  · have := few_x Lx[i] (List.getElem_mem _)
    simp only [List.getElem_map]
    exact (al.get i hi (by omega)).ne this.1 this.2
  · simp at hr; rcases hr with rfl | rfl <;> omega
  · rw [run i (by omega)]
    exact okE_ok (okE_x i hi) (by rw [List.length_take]; omega) (by decide) fun e he => size_x sp sq e (List.mem_of_mem_take he)
  · rw [run _ (Nat.le_refl _), List.take_of_length_le (by rw [el, vl]; exact Nat.le_refl _), rules_x]
    exact K h' e'
theorem EvalRules_holds {p q : Bool} {x y : X3} {xs xd ys yd : List Nat} {Q : Bool → Heap → Prop} (ht : Tab h) (hX : XR h x xs xd) (hY : XR h y ys yd) (K : ∀ h', Ext h h' → Q true h') : law10uEvalRules p q x y h Q := by
  refine mem_ext fun h1 e1 => speaks10uspec (R.ext ht e1) fun h2 e2 => ⟨nofun, fun _ => ?_⟩
  have e02 := e1.trans e2
  refine seq.cut (fun t h3 => (t = false → (∃ p, RQ h x p ∧ szQ p ≤ 6) ∧ (∃ q, RQ h y q ∧ szQ q ≤ 6)) ∧ Ext h2 h3) ?_ ?_
  · refine great2Q fun h3 e3 => ⟨fun _ => ⟨nofun, e3⟩, fun hb => ?_⟩
    simp only [Bool.or_eq_false_iff] at hb
    refine right6 hX hb.1 (e02.trans e3) fun b h4 hb4 e4 => ⟨fun _ => ⟨nofun, e3.trans e4⟩, fun hbt => ?_⟩
    refine right6 hY hb.2 (e02.trans (e3.trans e4)) fun b' h5 hb5 e5 => ⟨fun hbt' => ⟨hb4 (by simpa using hbt), hb5 (by simpa using hbt')⟩, e3.trans (e4.trans e5)⟩
  rintro t h3 ⟨hok, e3⟩
  have e03 := e02.trans e3
  refine ⟨fun _ => K h3 e03, fun hf => ?_⟩
  obtain ⟨⟨px, hp, sp⟩, ⟨py, hq, sq⟩⟩ := hok hf
  refine NT.start fun lb h13 q4 => ?_
  refine NT.add 4 q4 rfl rfl rfl (by decide) fun h14 q5 => ?_
  refine NT.add 5 q5 rfl rfl rfl (by decide) fun h15 q6 => ?_
  refine NT.add 6 q6 rfl rfl rfl (by decide) fun h16 q7 => ?_
  refine NT.add 7 q7 rfl rfl rfl (by decide) fun h17 q8 => ?_
  refine NT.add 8 q8 rfl rfl rfl (by decide) fun h18 q9 => ?_
  refine NT.add 9 q9 rfl rfl rfl (by decide) fun h19 q10 => ?_
  refine NT.add 10 q10 rfl rfl rfl (by decide) fun h20 q11 => ?_
  refine NT.add 11 q11 rfl rfl rfl (by decide) fun h21 q12 => ?_
  refine NT.add 12 q12 rfl rfl rfl (by decide) fun h22 q13 => ?_
  refine NT.add 13 q13 rfl rfl rfl (by decide) fun h23 q14 => ?_
  refine NT.add 14 q14 rfl rfl rfl (by decide) fun h24 q15 => ?_
  refine NT.add 15 q15 rfl rfl rfl (by decide) fun h25 q16 => ?_
  refine NT.add 16 q16 rfl rfl rfl (by decide) fun h26 q17 => ?_
  refine NT.add 17 q17 rfl rfl rfl (by decide) fun h27 q18 => ?_
  refine NT.add 18 q18 rfl rfl rfl (by decide) fun h28 q19 => ?_
  refine NT.add 19 q19 rfl rfl rfl (by decide) fun h29 q20 => ?_
  refine NT.add 20 q20 rfl rfl rfl (by decide) fun h30 q21 => ?_
  refine NT.add 21 q21 rfl rfl rfl (by decide) fun h31 q22 => ?_
  refine NT.add 22 q22 rfl rfl rfl (by decide) fun h32 q23 => ?_
  refine NT.add 23 q23 rfl rfl rfl (by decide) fun h33 q24 => ?_
  refine NT.add 24 q24 rfl rfl rfl (by decide) fun h34 q25 => ?_
  refine NT.add 25 q25 rfl rfl rfl (by decide) fun h35 q26 => ?_
  refine NT.add 26 q26 rfl rfl rfl (by decide) fun h36 q27 => ?_
  refine NT.add 27 q27 rfl rfl rfl (by decide) fun h37 q28 => ?_
  refine NT.add 28 q28 rfl rfl rfl (by decide) fun h38 q29 => ?_
  refine NT.add 29 q29 rfl rfl rfl (by decide) fun h39 q30 => ?_
  refine NT.add 30 q30 rfl rfl rfl (by decide) fun h40 q31 => ?_
  refine NT.add 31 q31 rfl rfl rfl (by decide) fun h41 q32 => ?_
  refine NT.add 32 q32 rfl rfl rfl (by decide) fun h42 q33 => ?_
  refine NT.add 33 q33 rfl rfl rfl (by decide) fun h43 q34 => ?_
  refine NT.add 34 q34 rfl rfl rfl (by decide) fun h44 q35 => ?_
  obtain ⟨w, ns, q35⟩ := q35
  refine newJ (ks := qx) 8 rfl rfl fun a33 h45 rq _ _ e45 => ?_
  rintro _ rfl
  have q36 := q35.ext e45
  have al := q36.all
  rw [show Lx.take 35 = Lx by rfl] at al
  have e3N := q36.env.ext
  have e0N := e03.trans e3N
  have rn := q36.own.rs lenC6 (by decide)
  have tN := R.ext ht e0N
  have hx := hp.ext e0N
  have hy := hq.ext e0N
  have cell : ∀ {h'}, Ext h45 h' → cell? h' ⟨lb, 0, none⟩ = some (Sl.toV w) := fun e => NS.keepC q36 e
  refine seq.cut (fun t h' => t = (true, 0) ∧ Ext h45 h') ?_ ?_
  · refine q36.env.load (x := w) 0 0 rfl rfl rfl ?_
    refine ⟨?_, ?_, ?_⟩
    · refine New_spec fun b hA bb zb eA => ⟨cell eA, ?_⟩
      constructor
      · refine newB (ks := [p, q]) 2 rfl rfl fun a1 hB rb z1 l1 eB => ⟨cell (eA.trans eB), ?_⟩
        refine newR3 (xs := [x, y]) 2 rfl rfl fun a2 hC rr z2 l2 eC => ⟨cell (eA.trans (eB.trans eC)), ?_⟩
        have sA := eA.size; have sB := eB.size; have sC := eC.size; have lb := bb.lt
        exact fin_x (Q := fun t h' => t = (true, 0) ∧ Ext h45 h') ⟨tN, (bb.ext (eB.trans eC)), eA.trans (eB.trans eC), by omega⟩ rn al rq (R.ext rb eC) (by omega) rr (by omega) hx hy sp sq fun h' e => ⟨rfl, e⟩
      · refine newR3 (xs := [x, y]) 2 rfl rfl fun a2 hB rr z2 l2 eB => ⟨cell (eA.trans eB), ?_⟩
        refine newB (ks := [p, q]) 2 rfl rfl fun a1 hC rb z1 l1 eC => ⟨cell (eA.trans (eB.trans eC)), ?_⟩
        have sA := eA.size; have sB := eB.size; have sC := eC.size; have lb := bb.lt
        exact fin_x (Q := fun t h' => t = (true, 0) ∧ Ext h45 h') ⟨tN, (bb.ext (eB.trans eC)), eA.trans (eB.trans eC), by omega⟩ rn al rq rb (by omega) (rr.ext eC) (by omega) hx hy sp sq fun h' e => ⟨rfl, e⟩
    · refine newB (ks := [p, q]) 2 rfl rfl fun a1 hA rb z1 l1 eA => ⟨cell eA, ?_⟩
      constructor
      · refine New_spec fun b hB bb zb eB => ⟨cell (eA.trans eB), ?_⟩
        refine newR3 (xs := [x, y]) 2 rfl rfl fun a2 hC rr z2 l2 eC => ⟨cell (eA.trans (eB.trans eC)), ?_⟩
        have sA := eA.size; have sB := eB.size; have sC := eC.size; have lb := bb.lt
        exact fin_x (Q := fun t h' => t = (true, 0) ∧ Ext h45 h') ⟨tN, (bb.ext eC), eA.trans (eB.trans eC), by omega⟩ rn al rq (R.ext rb (eB.trans eC)) (by omega) rr (by omega) hx hy sp sq fun h' e => ⟨rfl, e⟩
      · refine newR3 (xs := [x, y]) 2 rfl rfl fun a2 hB rr z2 l2 eB => ⟨cell (eA.trans eB), ?_⟩
        refine New_spec fun b hC bb zb eC => ⟨cell (eA.trans (eB.trans eC)), ?_⟩
        have sA := eA.size; have sB := eB.size; have sC := eC.size; have lb := bb.lt
        exact fin_x (Q := fun t h' => t = (true, 0) ∧ Ext h45 h') ⟨tN, bb, eA.trans (eB.trans eC), by omega⟩ rn al rq (R.ext rb (eB.trans eC)) (by omega) (rr.ext eC) (by omega) hx hy sp sq fun h' e => ⟨rfl, e⟩
    · refine newR3 (xs := [x, y]) 2 rfl rfl fun a2 hA rr z2 l2 eA => ⟨cell eA, ?_⟩
      constructor
      · refine New_spec fun b hB bb zb eB => ⟨cell (eA.trans eB), ?_⟩
        refine newB (ks := [p, q]) 2 rfl rfl fun a1 hC rb z1 l1 eC => ⟨cell (eA.trans (eB.trans eC)), ?_⟩
        have sA := eA.size; have sB := eB.size; have sC := eC.size; have lb := bb.lt
        exact fin_x (Q := fun t h' => t = (true, 0) ∧ Ext h45 h') ⟨tN, (bb.ext eC), eA.trans (eB.trans eC), by omega⟩ rn al rq rb (by omega) (rr.ext (eB.trans eC)) (by omega) hx hy sp sq fun h' e => ⟨rfl, e⟩
      · refine newB (ks := [p, q]) 2 rfl rfl fun a1 hB rb z1 l1 eB => ⟨cell (eA.trans eB), ?_⟩
        refine New_spec fun b hC bb zb eC => ⟨cell (eA.trans (eB.trans eC)), ?_⟩
        have sA := eA.size; have sB := eB.size; have sC := eC.size; have lb := bb.lt
        exact fin_x (Q := fun t h' => t = (true, 0) ∧ Ext h45 h') ⟨tN, bb, eA.trans (eB.trans eC), by omega⟩ rn al rq (R.ext rb eC) (by omega) (rr.ext (eB.trans eC)) (by omega) hx hy sp sq fun h' e => ⟨rfl, e⟩
  rintro _ h46 ⟨rfl, e46⟩
  refine seq.cut (fun t h' => t = true ∧ h' = h46) ⟨fun _ => ⟨rfl, rfl⟩, fun g => absurd g (by simp)⟩ ?_
  rintro _ _ ⟨rfl, rfl⟩
  exact K _ (e0N.trans e46)
end Go.Sh

/-
  Laws that the proof of this claim's statement leans on, each proved under the conditions that it states.
-/
import Derived.Test.YtkjcocjkcjmafaaSpC
set_option linter.unusedVariables false
set_option linter.unusedSimpArgs false
namespace Go.Sh
open Go Go.Lift Go.Cla
variable {h h' h1 h2 : Heap} {p p' : Addr} {x x' x1 x2 : Nm → Sl} {vs vs' : Nm → List Value} {S S0 T : SS} {n : Nat}
structure Sep (p : Addr) (x : Nm → Sl) (p' : Addr) (x' : Nm → Sl) : Prop where
  pp : p.block ≠ p'.block
  xp : ∀ i, (x i).blk ≠ some p'.block
  px : ∀ i, (x' i).blk ≠ some p.block
  xx : ∀ i j b, (x i).blk = some b → (x' j).blk ≠ some b
theorem Sep.symm (s : Sep p x p' x') : Sep p' x' p x := ⟨s.pp.symm, s.px, s.xp, fun i j b h1 h2 => s.xx j i b h2 h1⟩
theorem Sep.to (s : Sep p x p' x') (q : SM h p' x' vs' T) (t : To p 8 h x h' x1) : Sep p x1 p' x' := by
  refine ⟨s.pp, fun i e => ?_, s.px, fun i j b e1 e2 => ?_⟩
  · rcases t.foot i _ e with ⟨j, g⟩ | g
    · exact s.xp j g
    · have := q.plt; omega
  · rcases t.foot i b e1 with ⟨m, g⟩ | g
    · exact s.xx m j b g e2
    · have := q.ns.lt e2; omega
theorem SM.too (q : SM h p' x' vs' T) (t : To p 8 h x h' x1) (s : Sep p x p' x') : SM h' p' x' vs' T := by
  refine ⟨q.ns.too t (fun i b hb => ⟨fun e => s.px i (by rw [hb, e]), fun j hj => s.xx j i b hj hb⟩), q.spot, fun k hk => ?_, q.pn, q.enc⟩
  have o : Out p x (p'.add k).block := by rw [addr_add_block]; exact ⟨s.pp.symm, s.xp⟩
  have := q.root k hk
  exact ⟨t.cell this.1 o, t.frozen (cell_lt this.1) this.2 o⟩
def emptyS (n : Nat) : SS := ⟨[], List.replicate (2 * n) [], List.replicate n 0, List.replicate n 0, List.replicate n (-1), [], [], 0⟩
theorem at_rep0 {n k : Nat} : atI (List.replicate n 0) k = 0 := by
  unfold atI; rw [List.getD_eq_getElem?_getD, List.getElem?_replicate]; split <;> rfl
theorem empty_wt (n w : Nat) : (emptyS n).wt w = [] := by
  unfold SS.wt emptyS; rw [List.getD_eq_getElem?_getD, List.getElem?_replicate]; split <;> rfl
theorem empty_ask (hn : n ≤ 1048576) : Ask n (emptyS n) where
  t :=
  { nb := hn, vn := by simp [emptyS], ln := by simp [emptyS], rn := by simp [emptyS], wn := by simp [emptyS]
    tri := fun y hy => by right; left; exact List.eq_of_mem_replicate hy
    cn := by simp [emptyS], fit := fun j hj => by simp [emptyS] at hj
    tt := fun l hl => by simp [emptyS] at hl
    tn := by simp [emptyS]
    tv := fun v hv h => absurd at_rep0 h
    nx := by simp [emptyS], hn := by simp [emptyS] }
  w := ⟨fun w hw y hy => by rw [empty_wt] at hy; simp at hy, fun w hw j hj => by simp [emptyS] at hj⟩
  p := fun j hj => by simp [emptyS] at hj
  hd := fun hd hh => by simp [emptyS] at hh
theorem Wok.same {W : Nat → List Int} {S2 : SS} (k : Wok n S W) (e : S2.cls = S.cls) : Wok n S2 W := by
  have hc : ∀ j, S2.cl j = S.cl j := fun j => by unfold SS.cl; rw [e]
  refine ⟨fun w hw y hy => by rw [e]; exact k.rng w hw y hy, fun w hw j hj => ?_⟩
  rw [k.cnt w hw j (by rw [← e]; exact hj)]
  have : watches S2 j w ↔ watches S j w := by unfold watches lit; rw [hc]
  by_cases g : watches S j w
  · rw [if_pos g, if_pos (this.2 g)]
  · rw [if_neg g, if_neg (fun h => g (this.1 h))]
theorem Ask.tell (a : Ask n S) {l r : Int} (hth : There n l) (hv : vl S.val l = 0) : Ask n (putS S l r) := by
  refine ⟨a.t.put hth hv, a.w.same rfl, fun j hj k hk hex => ?_, a.hd⟩
  have hk : k < S.nxt := hk
  have hkt : k < S.tra.length := Nat.lt_of_lt_of_le hk a.t.nx
  have := a.p j hj k hk hex
  refine ⟨fun e => ?_, fun e => ?_⟩
  · have e : atI (S.tra ++ [l]) k = - lit S j 0 := e
    rw [at_app hkt] at e
    exact (this.1 e).put
  · have e : atI (S.tra ++ [l]) k = - lit S j 1 := e
    rw [at_app hkt] at e
    exact (this.2 e).put
theorem addS_cls (S : SS) (L : List Int) (b : Bool) : (addS S L b).cls = S.cls ++ [⟨L, b, 0⟩] := rfl
theorem addS_cl (S : SS) (L : List Int) (b : Bool) (j : Nat) : (addS S L b).cl j = if j = S.cls.length then ⟨L, b, 0⟩ else S.cl j := by
  unfold SS.cl
  rw [addS_cls, List.getD_eq_getElem?_getD, List.getD_eq_getElem?_getD]
  by_cases e : j = S.cls.length
  · subst e; simp
  · rw [if_neg e]
    by_cases e2 : j < S.cls.length
    · rw [List.getElem?_append_left e2]
    · rw [List.getElem?_eq_none (by simp; omega), List.getElem?_eq_none (by omega)]
theorem addS_wt (S : SS) (L : List Int) (b : Bool) (hw : S.wat.length = 2 * n) (f : FitsL n L) (w : Nat) :
    (addS S L b).wt w = S.wt w ++ (if wch (atI L 0) = w ∨ wch (atI L 1) = w then [(S.cls.length : Int)] else []) := by
  have h2 := f.2.2
  have l0 : There n (atI L 0) := f.1 _ (at_mem (by omega))
  have l1 : There n (atI L 1) := f.1 _ (at_mem (by omega))
  have hne : wch (atI L 0) ≠ wch (atI L 1) := fun e => f.ne (by omega : 0 < _) (by omega : 1 < _) (by decide) (wch_inj l0.1 l1.1 e)
  unfold addS linkS
  rw [cl_app]
  show (addW (addW { S with cls := S.cls ++ [⟨L, b, 0⟩] } (wch (atI L 0)) S.cls.length) (wch (atI L 1)) S.cls.length).wt w = _
  have hl0 : wch (atI L 0) < ({ S with cls := S.cls ++ [⟨L, b, 0⟩] } : SS).wat.length := by show _ < S.wat.length; rw [hw]; exact wch_lt l0
  rw [addW_wt _ _ _ _ (by rw [addW_len]; show _ < S.wat.length; rw [hw]; exact wch_lt l1), addW_wt _ _ _ _ hl0, addW_wt _ _ _ _ hl0]
  have hS : ∀ w, ({ S with cls := S.cls ++ [⟨L, b, 0⟩] } : SS).wt w = S.wt w := fun w => rfl
  rw [hS, hS, hS, if_neg hne.symm]
  by_cases e1 : w = wch (atI L 1)
  · subst e1
    rw [if_pos rfl, if_pos (.inr rfl)]
  · rw [if_neg e1]
    by_cases e0 : w = wch (atI L 0)
    · subst e0; rw [if_pos rfl, if_pos (.inl rfl)]
    · rw [if_neg e0, if_neg (fun h => by rcases h with h | h; exact e0 h.symm; exact e1 h.symm), List.append_nil]
theorem Ask.add (a : Ask n S) (h0 : S.nxt = 0) {L : List Int} {b : Bool} (f : FitsL n L) (hc : S.cls.length < 1073741824) : Ask n (addS S L b) := by
  have t := a.t
  have hwt := addS_wt (n := n) S L b t.wn f
  have hcl := addS_cl S L b
  have hlen : (addS S L b).cls.length = S.cls.length + 1 := by rw [addS_cls]; simp
  refine ⟨?_, ⟨fun w hw y hy => ?_, fun w hw j hj => ?_⟩, fun j hj k hk => ?_, a.hd⟩
  · exact
    { nb := t.nb, vn := t.vn, ln := t.ln, rn := t.rn
      wn := by unfold addS linkS; rw [addW_len, addW_len]; exact t.wn
      tri := t.tri, cn := by rw [hlen]; omega
      fit := fun j hj => by
        rw [hlen] at hj
        rw [hcl]
        by_cases e : j = S.cls.length
        · rw [if_pos e]; exact f
        · rw [if_neg e]; exact t.fit j (by omega)
      tt := t.tt, tn := t.tn, tv := t.tv, nx := t.nx, hn := t.hn }
  · rw [hwt] at hy
    rw [hlen]
    rcases List.mem_append.1 hy with h | h
    · obtain ⟨j, hj, e⟩ := a.w.rng w hw y h; exact ⟨j, by omega, e⟩
    · split at h
      · simp only [List.mem_singleton] at h; exact ⟨_, by omega, h⟩
      · simp at h
  · rw [hlen] at hj
    rw [hwt, List.count_append]
    have hlit : ∀ u, lit (addS S L b) j u = if j = S.cls.length then atI L u else lit S j u := fun u => by unfold lit; rw [hcl]; split <;> rfl
    by_cases e : j = S.cls.length
    · have hno : List.count (j : Int) (S.wt w) = 0 := List.count_eq_zero_of_not_mem fun hm => by
        obtain ⟨i, hi, e2⟩ := a.w.rng w hw _ hm; omega
      have hwi : watches (addS S L b) j w ↔ wch (atI L 0) = w ∨ wch (atI L 1) = w := by unfold watches; rw [hlit, hlit, if_pos e, if_pos e]
      rw [hno]
      by_cases g : wch (atI L 0) = w ∨ wch (atI L 1) = w
      · rw [if_pos g, if_pos (hwi.2 g), e]; simp
      · rw [if_neg g, if_neg (fun h => g (hwi.1 h))]; simp
    · have h1 := a.w.cnt w hw j (by omega)
      have h3 : List.count (j : Int) (if wch (atI L 0) = w ∨ wch (atI L 1) = w then [(S.cls.length : Int)] else []) = 0 := List.count_eq_zero_of_not_mem fun hm => by
        split at hm
        · simp only [List.mem_singleton] at hm; omega
        · simp at hm
      have hwi : watches (addS S L b) j w ↔ watches S j w := by unfold watches; rw [hlit, hlit, if_neg e, if_neg e]
      rw [h1, h3, Nat.add_zero]
      by_cases g : watches S j w
      · rw [if_pos g, if_pos (hwi.2 g)]
      · rw [if_neg g, if_neg (fun h => g (hwi.1 h))]
  · have hk : k < S.nxt := hk
    omega
theorem RI.stand (r : RI n S0 S) (a : Ask n S) (hx : S.nxt = S.tra.length) : ∀ c, C0 S0 c → Stand S.val c := by
  rintro c ⟨j, hj, rfl⟩
  have hj' : j < S.cls.length := by rw [r.cl]; exact hj
  have h1 := stands a.t (by rw [← hx]; exact a.p) hj'
  have e := r.sl j hj
  rcases h1 with ⟨l, hl, hv⟩ | ⟨l, hl, m, hm, hne, h2, h3⟩
  · exact .inl ⟨l, (e l).1 hl, hv⟩
  · exact .inr ⟨l, (e l).1 hl, m, (e m).1 hm, hne, h2, h3⟩
theorem RI.told (r : RI n S0 S) (t0 : Tok n S0) : ∀ l, vl S0.val l = 1 → vl S.val l = 1 := by
  intro l hl
  refine r.t.vl_iff.2 ?_
  obtain ⟨u, hu⟩ := r.pre
  rw [hu]; exact List.mem_append_left _ (t0.vl_iff.1 hl)
theorem RI.derV (r : RI n S0 S) : ∀ l, vl S.val l = 1 → Der (C0 S0) (fun l => vl S0.val l = 1) l := fun l hl => r.der l (r.t.vl_iff.1 hl)
theorem RI.bad (r : RI n S0 S) {j : Nat} (hj : j < S.cls.length) (b : Bad n S j) : ∃ c, C0 S0 c ∧ FalseC S.val c :=
  ⟨_, ⟨j, by rw [← r.cl]; exact hj, rfl⟩, fun l hl => b.f l ((r.sl j (by rw [← r.cl]; exact hj) l).2 hl)⟩
end Go.Sh

namespace Go.Sh
open Go Go.Lift Go.Cla
variable {S T S' T' : SS} {n : Nat}
theorem Stand.congr {V : List Int} {c c' : List Int} (e : ∀ l, l ∈ c ↔ l ∈ c') (h : Stand V c') : Stand V c := by
  rcases h with ⟨l, hl, hv⟩ | ⟨l, hl, m, hm, hne, h2, h3⟩
  · exact .inl ⟨l, (e l).2 hl, hv⟩
  · exact .inr ⟨l, (e l).2 hl, m, (e m).2 hm, hne, h2, h3⟩
theorem swapL_swapL {l : List Int} {a b : Nat} (ha : a < l.length) (hb : b < l.length) : swapL (swapL l a b) a b = l := by
  refine ext_at (by rw [swapL_len, swapL_len]) fun i hi => ?_
  rw [at_swapL (by rw [swapL_len]; exact ha) (by rw [swapL_len]; exact hb), at_swapL ha hb, at_swapL ha hb, at_swapL ha hb]
  by_cases e1 : i = a
  · rw [if_pos e1]
    by_cases e2 : b = a
    · rw [if_pos e2, e1, e2]
    · rw [if_neg e2, if_pos rfl, e1]
  · rw [if_neg e1]
    by_cases e2 : i = b
    · rw [if_pos e2, if_pos rfl, e2]
    · rw [if_neg e2, if_neg e1, if_neg e2]
structure Sim (n : Nat) (c c' : List Int) : Prop where
  len : c'.length = c.length
  mem : ∀ y, y ∈ c ↔ y ∈ c'
  fit : FitsL n c ↔ FitsL n c'
theorem Sim.refl (n : Nat) (c : List Int) : Sim n c c := ⟨rfl, fun _ => Iff.rfl, Iff.rfl⟩
theorem Sim.swap {c c' : List Int} (s : Sim n c c') {a b : Nat} (ha : a < c'.length) (hb : b < c'.length) : Sim n c (swapL c' a b) := by
  refine ⟨by rw [swapL_len]; exact s.len, fun y => (s.mem y).trans (mem_swapL ha hb y).symm, s.fit.trans ⟨fun f => fits_swapL f ha hb, fun f => ?_⟩⟩
  have := fits_swapL f (a := a) (b := b) (by rw [swapL_len]; exact ha) (by rw [swapL_len]; exact hb)
  rwa [swapL_swapL ha hb] at this
end Go.Sh

namespace Go.Sh
open Go Go.Lift Go.Cla
variable {h h' g0 h0 h1 h2 : Heap} {p p' : Addr} {x x' x1 x2 : Nm → Sl} {vs vs' : Nm → List Value} {S S0 T : SS} {n N : Nat}
structure Pool (h0 h : Heap) (w : Option Sl) (n : Nat) (l : List Sl) : Prop where
  ext : Ext h0 h
  wo : ∀ s, w = some s → Own Sl.toV h0.size h s (List.replicate (2 * n) Sl.nil)
  io : ∀ s ∈ l, Own toI h0.size h s (List.replicate n 0)
  wd : ∀ s, w = some s → ∀ t ∈ l, ∀ b, s.blk = some b → t.blk ≠ some b
  dis : l.Pairwise (fun s t => ∀ b, s.blk = some b → t.blk ≠ some b)
theorem Pool.go {w : Option Sl} {l : List Sl} (q : Pool h0 h w n l) (e : Ext h h') : Pool h0 h' w n l := ⟨q.ext.trans e, fun s hs => (q.wo s hs).ext e, fun s hs => (q.io s hs).ext e, q.wd, q.dis⟩
theorem pm {w : Option Sl} {l : List Sl} {k : Heap → Prop} (K : ∀ h', Pool h0 h' w n l → k h') (q : Pool h0 h w n l) : mem h k := mem_ext fun h' e => K h' (q.go e)
theorem mk_rep {α : Type} {toV : α → Value} {a : α} {m : Nat} {i : Int} {bytes : Nat} {k : Sl → Heap → Prop} (hi : i = (m : Int)) (hm : m ≤ 2097152) (hb : bytes ≤ 24)
    (K : ∀ s h', Own toV h.size h' s (List.replicate m a) → Ext h h' → s.blk = some h.size → k s h') : mkS [toV a] bytes i i h k := by
  subst hi
  have hbb : m * bytes ≤ 2097152 * 24 := Nat.mul_le_mul hm hb
  refine ⟨⟨by omega, by omega, ?_⟩, fun T => ?_⟩
  · have : ((m * bytes : Nat) : Int) ≤ 2 ^ 46 := by have : (m * bytes : Nat) ≤ 2 ^ 46 := by omega
                                                    exact_mod_cast this
    rw [← Int.natCast_mul]; exact this
  · have ho := Own.new (toV := toV) (h := h) (ys := List.replicate m a) (cs := (List.replicate m a).map toV) (T := T) rfl
    simp only [Int.toNat_natCast]
    have e : List.flatten (List.replicate m [toV a]) = (List.replicate m a).map toV := by simp
    rw [e]
    refine K _ _ ?_ (Ext.push _ _) rfl
    simpa using ho
theorem pw {l : List Sl} {i : Int} {k : Sl → Heap → Prop} (hi : i = ((2 * n : Nat) : Int)) (hn : n ≤ 1048576) (K : ∀ s h', Pool h0 h' (some s) n l → k s h') (q : Pool h0 h none n l) : mkS [Sl.toV Sl.nil] 24 i i h k :=
  mk_rep hi (by omega) (by omega) fun s h' o e hb => K s h' ⟨q.ext.trans e, fun s' hs => by cases hs; exact o.mono q.ext.size, fun t ht => (q.io t ht).ext e, fun s' hs t ht b h1 h2 => by
    cases hs
    rw [hb] at h1; injection h1 with h1
    have := ((q.io t ht).lt h2).2; omega, q.dis⟩
theorem pi {w : Option Sl} {l : List Sl} {i : Int} {k : Sl → Heap → Prop} (hi : i = (n : Int)) (hn : n ≤ 1048576) (K : ∀ s h', Pool h0 h' w n (s :: l) → k s h') (q : Pool h0 h w n l) : mkS [Value.int .i64 0] 8 i i h k :=
  mk_rep (toV := toI) (a := 0) hi (by omega) (by omega) fun s h' o e hb => K s h' ⟨q.ext.trans e, fun s' hs => (q.wo s' hs).ext e, fun t ht => by
    rcases List.mem_cons.1 ht with g | g
    · rw [g]; exact o.mono q.ext.size
    · exact (q.io t g).ext e, fun s' hs t ht b h1 h2 => by
    rcases List.mem_cons.1 ht with g | g
    · rw [g, hb] at h2; injection h2 with h2
      have := ((q.wo s' hs).lt h1).2; omega
    · exact q.wd s' hs t g b h1 h2, List.pairwise_cons.2 ⟨fun t ht b h1 h2 => by
      rw [hb] at h1; injection h1 with h1
      have := ((q.io t ht).lt h2).2; omega, q.dis⟩⟩
theorem pand {P A B : Prop} (f : P → A) (g : P → B) (q : P) : A ∧ B := ⟨f q, g q⟩
theorem Pool.sw1 {w : Option Sl} {a b : Sl} {l : List Sl} (q : Pool h0 h w n (a :: b :: l)) : Pool h0 h w n (b :: a :: l) := by
  have d := q.dis
  simp only [List.pairwise_cons, List.mem_cons, forall_eq_or_imp] at d
  refine ⟨q.ext, q.wo, fun s hs => q.io s (by simp only [List.mem_cons] at hs ⊢; rcases hs with g | g | g <;> simp [g]), fun s hs t ht => q.wd s hs t (by simp only [List.mem_cons] at ht ⊢; rcases ht with g | g | g <;> simp [g]), ?_⟩
  simp only [List.pairwise_cons, List.mem_cons, forall_eq_or_imp]
  exact ⟨⟨fun c h1 h2 => d.1.1 c h2 h1, d.2.1⟩, d.1.2, d.2.2⟩
theorem Pool.sw2 {w : Option Sl} {a b c : Sl} {l : List Sl} (q : Pool h0 h w n (a :: b :: c :: l)) : Pool h0 h w n (a :: c :: b :: l) := by
  have d := q.dis
  simp only [List.pairwise_cons, List.mem_cons, forall_eq_or_imp] at d
  refine ⟨q.ext, q.wo, fun s hs => q.io s (by simp only [List.mem_cons] at hs ⊢; rcases hs with g | g | g | g <;> simp [g]), fun s hs t ht => q.wd s hs t (by simp only [List.mem_cons] at ht ⊢; rcases ht with g | g | g | g <;> simp [g]), ?_⟩
  simp only [List.pairwise_cons, List.mem_cons, forall_eq_or_imp]
  exact ⟨⟨d.1.2.1, d.1.1, d.1.2.2⟩, ⟨fun x h1 h2 => d.2.1.1 x h2 h1, d.2.2.1⟩, d.2.1.2, d.2.2.2⟩
abbrev zero8 : List Value := [Sl.toV Sl.nil, Sl.toV Sl.nil, Sl.toV Sl.nil, Sl.toV Sl.nil, Sl.toV Sl.nil, Sl.toV Sl.nil, Sl.toV Sl.nil, Value.int .i64 0]
theorem keepOwnX {α : Type} {toV : α → Value} {h h1 h2 : Heap} {B : Nat} {s : Sl} {xs : List α} (e : Ext h h1) (ho : Own toV B h1 s xs) (hB : h.size ≤ B) (k : Keep s.blk h1 h2) : Ext h h2 :=
  ⟨Nat.le_trans e.size k.size, fun b hb hne => (k.same b (Nat.lt_of_lt_of_le hb e.size) (fun e2 => by have := (ho.lt e2.symm).1; omega)).trans (e.same b hb hne)⟩
def NewJ (h0 : Heap) (n : Nat) (t : S8) (h : Heap) : Prop := ∃ w v l r, t = (Sl.nil, w, v, l, r, Sl.nil, Sl.nil, 0) ∧ Pool h0 h (some w) n [v, l, r]
theorem NewJ.of {w v l r : Sl} (q : Pool h0 h (some w) n [v, l, r]) : NewJ h0 n (Sl.nil, w, v, l, r, Sl.nil, Sl.nil, 0) h := ⟨w, v, l, r, rfl, q⟩
def newX (w v l r : Sl) : Nm → Sl
  | .wat => w | .val => v | .lev => l | .rea => r | _ => Sl.nil
def newV (n : Nat) : Nm → List Value
  | .wat => (List.replicate (2 * n) Sl.nil).map Sl.toV | .val => (List.replicate n 0).map toI | .lev => (List.replicate n 0).map toI | .rea => (List.replicate n (-1)).map toI | _ => []
theorem newEnc (w v l r : Sl) (n : Nat) : Enc (newX w v l r) (newV n) (emptyS n) where
  val := rfl
  lev := rfl
  rea := rfl
  tra := rfl
  hea := rfl
  wlen := by simp [newV, emptyS]
  wr := fun i hi => by
    have hi : i < 2 * n := by simpa [emptyS] using hi
    show ((List.replicate (2 * n) Sl.nil).map Sl.toV)[i]? = some (Sl.toV Sl.nil)
    rw [List.getElem?_eq_getElem (by simpa using hi)]; simp
  w := fun i => by rw [empty_wt]; rfl
  clen := rfl
  cr := fun i hi => by simp [emptyS] at hi
  c := fun i => by unfold SS.cl; simp [emptyS, newV]
structure New8 (h0 h : Heap) (n : Nat) (t : S8) (x : Nm → Sl) (vs : Nm → List Value) : Prop where
  ns : NS Nm.sc h x vs
  enc : Enc x vs (emptyS n)
  eq : t = (x .cls, x .wat, x .val, x .lev, x .rea, x .tra, x .hea, 0)
  ext : Ext h0 h
  fresh : ∀ i b, (x i).blk = some b → h0.size ≤ b
theorem cNew_spec {i : Int} {Q : S8 → Heap → Prop} (hN : (N : Int) = max (min i 1048576) 0) (K : ∀ t h' x vs, New8 h h' N t x vs → Q t h') : clause_New i h Q := by
  refine mem_ext fun g0 e0 => ?_
  rintro n1 hn1
  have hn : n1 = (N : Int) := by
    rw [hn1, hN]
    by_cases h1 : 1048576 < i
    · rw [if_pos h1, if_neg (by decide)]; omega
    · rw [if_neg h1]
      by_cases h2 : 0 > i
      · rw [if_pos h2]; omega
      · rw [if_neg h2]; omega
  subst hn
  have hle : N ≤ 1048576 := by omega
  have hw : IntKind.wrap .i64 (2 * (N : Int)) = ((2 * N : Nat) : Int) := by rw [w64 (by omega) (by omega)]; omega
  have p0 : Pool h g0 none N [] := ⟨e0, nofun, nofun, nofun, List.Pairwise.nil⟩
  refine seq.cut (NewJ h N) ?_ ?_
  · revert p0
    repeat' first
      | refine pm fun _ => ?_
      | refine pw hw hle fun _ _ => ?_
      | refine pi rfl hle fun _ _ => ?_
      | refine pand ?_ ?_
    all_goals first
      | exact fun q => NewJ.of q
      | exact fun q => NewJ.of q.sw1
      | exact fun q => NewJ.of q.sw2
      | exact fun q => NewJ.of q.sw1.sw2
      | exact fun q => NewJ.of q.sw2.sw1
      | exact fun q => NewJ.of q.sw1.sw2.sw1
  · rintro t h3 ⟨w, v, l, r, rfl, q⟩
    dsimp only
    have ow := q.wo w rfl
    have ov := q.io v (by simp)
    have ol := q.io l (by simp)
    have orr := q.io r (by simp)
    have d := q.dis
    have wd := q.wd w rfl
    simp only [List.pairwise_cons, List.mem_cons, forall_eq_or_imp, List.not_mem_nil, false_implies, implies_true, and_true, List.mem_singleton, forall_eq] at d wd
    obtain ⟨⟨dvl, dvr⟩, dlr, _⟩ := d
    obtain ⟨wv, wl, wr⟩ := wd
    have hrl : r.len = N := by rw [orr.r.len]; simp
    rw [hrl]
    refine loop.inv (fun (s0 : Int) h4 => ∃ j : Nat, s0 = (j : Int) ∧ j ≤ N ∧ Own toI h.size h4 r (List.replicate j (-1) ++ List.replicate (N - j) 0) ∧ Keep r.blk h3 h4) (fun s0 _ => N - s0.toNat) ⟨0, rfl, Nat.zero_le _, by simpa using orr, Keep.refl _ _⟩ ?_
    rintro s0 h4 ⟨j, rfl, hj, o4, k4⟩
    refine ⟨fun hlt => ?_, fun hge => ?_⟩
    · simp only [decide_eq_true_eq] at hlt
      have hjN : j < N := by omega
      have hjl : j < (List.replicate j (-1 : Int) ++ List.replicate (N - j) 0).length := by simp; omega
      obtain ⟨a, ha, _⟩ := o4.r.get (i := j) hjl
      refine ⟨a, ha, ⟨by omega, by omega⟩, ?_⟩
      simp only [Int.toNat_natCast, Nat.mul_one]
      refine o4.store hjl ha (-1) fun h5 o5 k5 hs5 => ?_
      rw [w64 (by omega) (by omega)]
      refine ⟨⟨j + 1, by simp, by omega, ?_, k4.trans k5⟩, by omega⟩
      have e : (List.replicate j (-1 : Int) ++ List.replicate (N - j) 0).set j (-1) = List.replicate (j + 1) (-1) ++ List.replicate (N - (j + 1)) 0 := by
        rw [List.set_append_right _ _ (by simp)]
        have : N - j = (N - (j + 1)) + 1 := by omega
        rw [this, List.replicate_succ]
        simp [List.replicate_succ']
      rw [← e]; exact o5
    · simp only [decide_eq_false_iff_not] at hge
      have : j = N := by omega
      subst this
      simp only [Nat.sub_self, List.replicate_zero, List.append_nil] at o4
      have kp : ∀ {α : Type} {toV : α → Value} {s : Sl} {xs : List α}, Own toV h.size h3 s xs → (∀ b, s.blk = some b → r.blk ≠ some b) → Own toV h.size h4 s xs := fun o hd => o.keep k4 (fun b hb e => hd b hb e.symm)
      refine K _ h4 (newX w v l r) (newV j) ⟨⟨fun nm => ?_, fun a b c ha hb => ?_⟩, newEnc w v l r j, rfl, ?_, fun nm b hb => ?_⟩
      · have z : ∀ k, OwnV h4 (Sl.sc k Sl.nil) [] := fun k => by rw [Sl.sc_nil]; exact OwnV.nil
        have one1 : ∀ s : Sl, Sl.sc 1 s = s := fun _ => Sl.sc_one
        cases nm <;> simp only [Nm.sc, newX, newV, one1] <;> first
          | exact z _
          | exact OwnV.nil
          | exact OwnV.of (fun _ => rfl) (kp ow wr)
          | exact OwnV.of one_toI (kp ov dvr)
          | exact OwnV.of one_toI (kp ol dlr)
          | exact OwnV.of one_toI o4
      · have nn : ∀ c, Sl.nil.blk ≠ some c := fun c h => by cases h
        cases a <;> first | exact absurd ha (nn c) | skip
        all_goals cases b <;> first | rfl | exact absurd hb (nn c) | skip
        all_goals simp only [newX] at ha hb
        · exact absurd hb (wv c ha)
        · exact absurd hb (wl c ha)
        · exact absurd hb (wr c ha)
        · exact absurd ha (wv c hb)
        · exact absurd hb (dvl c ha)
        · exact absurd hb (dvr c ha)
        · exact absurd ha (wl c hb)
        · exact absurd ha (dvl c hb)
        · exact absurd hb (dlr c ha)
        · exact absurd ha (wr c hb)
        · exact absurd ha (dvr c hb)
        · exact absurd ha (dlr c hb)
      · exact keepOwnX q.ext orr (Nat.le_refl _) k4
      · have nn : ∀ c, Sl.nil.blk ≠ some c := fun c h => by cases h
        cases nm <;> first | exact absurd hb (nn b) | skip
        · exact (ow.lt hb).1
        · exact (ov.lt hb).1
        · exact (ol.lt hb).1
        · exact (orr.lt hb).1
theorem new8 {k : Addr → Heap → Prop} (K : ∀ h1 T, h1[h.size]? = some (.cells (zero8).toArray T (0, 0)) → Ext h h1 → h1.size = h.size + 1 → k ⟨h.size, 0, none⟩ h1) : new zero8 h k := by
  intro T
  exact K _ T (by simp) (Ext.push _ _) (by simp)
theorem lay8 {b : Nat} {T : Nat} {t : S8} {k : Heap → Prop} (q : New8 h0 h1 n t x vs) (e : Ext h1 h) (hb : h[b]? = some (.cells (zero8).toArray T (0, 0))) (hfar : h1.size ≤ b)
    (K : ∀ h', SM h' ⟨b, 0, none⟩ x vs (emptyS n) → Keep (some b) h h' → k h') : storeS ⟨b, 0, none⟩ [Sl.toV t.1, Sl.toV t.2.1, Sl.toV t.2.2.1, Sl.toV t.2.2.2.1, Sl.toV t.2.2.2.2.1, Sl.toV t.2.2.2.2.2.1, Sl.toV t.2.2.2.2.2.2.1, Value.int .i64 t.2.2.2.2.2.2.2] h k := by
  rw [q.eq]
  dsimp only
  obtain ⟨c', g1, g2, g3, g4, g5⟩ := setCells_block [Sl.toV (x .cls), Sl.toV (x .wat), Sl.toV (x .val), Sl.toV (x .lev), Sl.toV (x .rea), Sl.toV (x .tra), Sl.toV (x .hea), Value.int .i64 0] 0 0 _ _ hb (by simp [zero8])
  refine ⟨g5, ?_⟩
  have kk := setCells_keep (h := h) ⟨b, 0, none⟩ [Sl.toV (x .cls), Sl.toV (x .wat), Sl.toV (x .val), Sl.toV (x .lev), Sl.toV (x .rea), Sl.toV (x .tra), Sl.toV (x .hea), Value.int .i64 0] 0
  generalize setCells h ⟨b, 0, none⟩ [Sl.toV (x .cls), Sl.toV (x .wat), Sl.toV (x .val), Sl.toV (x .lev), Sl.toV (x .rea), Sl.toV (x .tra), Sl.toV (x .hea), Value.int .i64 0] 0 = h9 at *
  have hne : ∀ i c, (x i).blk = some c → c ≠ b := fun i c hc e2 => by have := q.ns.lt hc; omega
  refine K h9 ⟨(q.ns.ext e).keep kk (fun i c hc e2 => hne i c hc (by injection e2)), rfl, fun m hm => ⟨?_, ?_⟩, fun i hi => hne i b hi rfl, q.enc⟩ kk
  · rw [addr_add _ _ rfl]
    unfold cell?
    simp only [Nat.zero_add]
    rw [g1]
    match m, hm with
    | 0, _ => simpa [rootV, emptyS, toI] using g4 0 (by simp)
    | 1, _ => simpa [rootV, emptyS, toI] using g4 1 (by simp)
    | 2, _ => simpa [rootV, emptyS, toI] using g4 2 (by simp)
    | 3, _ => simpa [rootV, emptyS, toI] using g4 3 (by simp)
    | 4, _ => simpa [rootV, emptyS, toI] using g4 4 (by simp)
    | 5, _ => simpa [rootV, emptyS, toI] using g4 5 (by simp)
    | 6, _ => simpa [rootV, emptyS, toI] using g4 6 (by simp)
    | 7, _ => simpa [rootV, emptyS, toI] using g4 7 (by simp)
  · rw [addr_add _ _ rfl]; exact frozen_none g1
end Go.Sh

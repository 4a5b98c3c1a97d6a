/-
  Laws that the proof of this claim's statement leans on, each proved under the conditions that it states.
-/
import Derived.Test.YtmcfhickfcmkkaaGreatDoorSK
import Derived.Test.YtmcfhickfcmkkaaGreatDoorUA
import Derived.Test.YtmcfhickfcmkkaaGreatDoorUD
import Derived.Test.YtmcfhickfcmkkaaGreatDoorSV
set_option linter.unusedVariables false
set_option linter.unusedSimpArgs false
namespace Go.Sh.Pk
open Go Go.Lift
abbrev P (α : Type) := List Nat → Option (α × List Nat)
def Snd {α : Type} (p : P α) (enc : α → List Nat) : Prop := ∀ bs v r, Lim 256 bs → p bs = some (v, r) → bs = enc v ++ r
def pB {α β : Type} (p : P α) (q : P β) : P (α × β) := fun bs => (p bs).bind fun x => (q x.2).map fun y => ((x.1, y.1), y.2)
theorem Snd.pB {α β : Type} {p : P α} {q : P β} {e : α → List Nat} {f : β → List Nat} (hp : Snd p e) (hq : Snd q f) : Snd (pB p q) fun v => e v.1 ++ f v.2 := by
  intro bs v r hl h
  unfold Pk.pB at h
  cases h1 : p bs with
  | none => rw [h1] at h; cases h
  | some x =>
    rw [h1] at h
    simp only [Option.bind_some] at h
    cases h2 : q x.2 with
    | none => rw [h2] at h; cases h
    | some y =>
      rw [h2] at h
      simp only [Option.map_some, Option.some.injEq] at h
      cases h
      have e1 := hp bs x.1 x.2 hl (by rw [h1])
      have hl2 : Lim 256 x.2 := fun y hy => hl y (by rw [e1]; exact List.mem_append_right _ hy)
      have e2 := hq x.2 y.1 y.2 hl2 (by rw [h2])
      rw [e1, e2]
      simp [List.append_assoc]
def ofS {β : Type} (f : St → β × St) : P β := fun bs => match (f (some bs)).2 with
  | none => none
  | some r => some ((f (some bs)).1, r)
theorem sY {β : Type} {f : St → β × St} {bs r : List Nat} {v : β} (h : ofS f bs = some (v, r)) : f (some bs) = (v, some r) := by
  unfold ofS at h
  cases hf : f (some bs) with
  | mk x y => rw [hf] at h; cases y <;> simp_all
theorem aiN (l : List Nat) : ∀ k, l.length = k → Lim 256 l → bsBE k (be l) = l := by
  intro k hk hl
  subst hk
  have h1 := ak1 l.length (be l)
  have h2 := aim l _ rfl hl
  rw [Nat.mod_eq_of_lt h2] at h1
  have key : ∀ (a b : List Nat), a.length = b.length → Lim 256 a → Lim 256 b → be a = be b → a = b := by
    intro a
    induction a with
    | nil => intro b hb _ _ _; exact (List.eq_nil_of_length_eq_zero hb.symm).symm
    | cons x a ih =>
      intro b hb ha hbl he
      cases b with
      | nil => simp at hb
      | cons y b =>
        rw [aex, aex] at he
        have hlen : a.length = b.length := by simpa using hb
        have ha2 : Lim 256 a := fun z hz => ha z (List.mem_cons_of_mem _ hz)
        have hb2 : Lim 256 b := fun z hz => hbl z (List.mem_cons_of_mem _ hz)
        have l1 := aim a _ rfl ha2
        have l2 := aim b _ rfl hb2
        rw [hlen] at he l1
        have hxy : x = y := by
          have e1 : (x * 256 ^ b.length + be a) / 256 ^ b.length = x := by
            rw [Nat.mul_comm, Nat.mul_add_div (Nat.pow_pos (by decide)), Nat.div_eq_of_lt l1, Nat.add_zero]
          have e2 : (y * 256 ^ b.length + be b) / 256 ^ b.length = y := by
            rw [Nat.mul_comm, Nat.mul_add_div (Nat.pow_pos (by decide)), Nat.div_eq_of_lt l2, Nat.add_zero]
          rw [← e1, ← e2, he]
        subst hxy
        rw [ih b hlen ha2 hb2 (by omega)]
  exact key _ _ (aF _ _) (ajN _ _) hl h1
theorem ahE {bs r : List Nat} {k n : Nat} (h : numS (some bs) k = (n, some r)) (hl : Lim 256 bs) : bs = bsBE k n ++ r ∧ n < 256 ^ k := by
  by_cases hk : k ≤ bs.length
  · rw [abP hk] at h
    simp only [Prod.mk.injEq, Option.some.injEq] at h
    obtain ⟨rfl, rfl⟩ := h
    have ht : Lim 256 (bs.take k) := hl.take k
    have hlen : (bs.take k).length = k := by rw [List.length_take]; omega
    exact ⟨by rw [aiN _ k hlen ht, List.take_append_drop], aim _ _ hlen ht⟩
  · unfold numS tk at h
    simp only at h
    rw [if_neg (by omega)] at h
    cases h
theorem akl {n : Nat} (h : n < 18446744073709551616) : toU (sg n) = n := by
  unfold toU sg
  rw [IntKind.wrap_i64]
  omega
def encI (n : Int) : List Nat := bsBE 8 (toU n)
def pI : P Int := ofS fun st => (sg (numS st 8).1, (numS st 8).2)
theorem ai6 : Snd pI encI := by
  intro bs v r hl h
  have h := sY h
  simp only [Prod.mk.injEq] at h
  obtain ⟨rfl, h2⟩ := h
  obtain ⟨e, hn⟩ := ahE (n := (numS (some bs) 8).1) (Prod.ext rfl h2 : numS (some bs) 8 = (_, some r)) hl
  unfold encI
  rw [akl hn]
  exact e
def encF (b : Bool) : List Nat := bsBE 1 (agX b)
def pF : P Bool := ofS gB
theorem amR : Snd pF encF := by
  intro bs v r hl h
  have h := sY h
  unfold gB at h
  split at h
  · cases h
  · rename_i hn
    simp only [Prod.mk.injEq] at h
    obtain ⟨rfl, h2⟩ := h
    obtain ⟨e, _⟩ := ahE (n := (numS (some bs) 1).1) (Prod.ext rfl h2 : numS (some bs) 1 = (_, some r)) hl
    unfold encF agX
    have : (if ((numS (some bs) 1).1 == 1) = true then 1 else 0) = (numS (some bs) 1).1 := by
      rcases (by omega : (numS (some bs) 1).1 = 0 ∨ (numS (some bs) 1).1 = 1) with e | e <;> rw [e] <;> rfl
    rw [this]
    exact e
theorem aj6 {bs r : List Nat} {least c : Int} (h : cnt (some bs) least = (c, some r)) (hl : Lim 256 bs) : ∃ n : Nat, c = (n : Int) ∧ bs = bsBE 8 n ++ r ∧ (n : Int) ≤ (r.length : Int) / max least 1 := by
  rcases wu (some bs) least with ⟨bs', e1, e2, e3, e4⟩ | e
  · rw [h] at e1 e2 e3
    cases e1
    obtain ⟨n, rfl⟩ := Int.eq_ofNat_of_zero_le e2
    obtain ⟨g1, g2⟩ := ahE (n := (numS (some bs) 8).1) (Prod.ext rfl e4 : numS (some bs) 8 = (_, some r)) hl
    refine ⟨n, rfl, ?_, e3⟩
    have hc : sg (numS (some bs) 8).1 = (n : Int) := by
      unfold cnt at h
      rw [e4] at h
      dsimp only at h
      split at h
      · cases h
      · exact congrArg Prod.fst h
    have : (numS (some bs) 8).1 = n := by
      have g2 : (numS (some bs) 8).1 < 18446744073709551616 := g2
      generalize (numS (some bs) 8).1 = n0 at *
      unfold sg at hc; rw [IntKind.wrap_i64] at hc; omega
    rw [← this]; exact g1
  · rw [h] at e; cases e
def pN {α : Type} (p : P α) : Nat → P (List α)
  | 0, bs => some ([], bs)
  | n + 1, bs => (p bs).bind fun x => (pN p n x.2).map fun y => (x.1 :: y.1, y.2)
def pL {α : Type} (p : P α) (least : Int) : P (List α) := fun bs => match cnt (some bs) least with
  | (c, some r) => pN p c.toNat r
  | (_, none) => none
def encL {α : Type} (enc : α → List Nat) (l : List α) : List Nat := bsBE 8 l.length ++ (l.map enc).flatten
theorem akh {α : Type} {p : P α} {enc : α → List Nat} (hp : Snd p enc) : ∀ n bs l r, Lim 256 bs → pN p n bs = some (l, r) → bs = (l.map enc).flatten ++ r ∧ l.length = n := by
  intro n
  induction n with
  | zero => intro bs l r _ h; cases h; exact ⟨by simp, rfl⟩
  | succ n ih =>
    intro bs l r hl h
    unfold pN at h
    cases h1 : p bs with
    | none => rw [h1] at h; cases h
    | some x =>
      rw [h1] at h
      simp only [Option.bind_some] at h
      cases h2 : pN p n x.2 with
      | none => rw [h2] at h; cases h
      | some y =>
        rw [h2] at h
        simp only [Option.map_some, Option.some.injEq] at h
        cases h
        have e1 := hp bs x.1 x.2 hl (by rw [h1])
        have hl2 : Lim 256 x.2 := fun y hy => hl y (by rw [e1]; exact List.mem_append_right _ hy)
        obtain ⟨e2, e3⟩ := ih x.2 y.1 y.2 hl2 (by rw [h2])
        exact ⟨by rw [e1, e2]; simp [List.append_assoc], by simp [e3]⟩
theorem Snd.pL {α : Type} {p : P α} {enc : α → List Nat} {least : Int} (hp : Snd p enc) : Snd (pL p least) (encL enc) := by
  intro bs v r hl h
  unfold Pk.pL at h
  split at h
  · rename_i c r' hc
    obtain ⟨n, rfl, e1, _⟩ := aj6 hc hl
    have hl2 : Lim 256 r' := fun y hy => hl y (by rw [e1]; exact List.mem_append_right _ hy)
    obtain ⟨e2, e3⟩ := akh hp _ _ _ _ hl2 h
    unfold encL
    rw [e3, List.append_assoc, ← e2]
    exact e1
  · cases h
theorem ah0 {w : Nat} : ∀ c (bs : List Nat), w * c ≤ bs.length → Lim 256 bs → ((qO w c bs).map (bsBE w)).flatten = bs.take (w * c) := by
  intro c
  induction c with
  | zero => intro bs _ _; simp [qO]
  | succ c ih =>
    intro bs hc hl
    have : w * (c + 1) = w * c + w := by rw [Nat.mul_add, Nat.mul_one]
    rw [rE, List.map_append, List.flatten_append, ih bs (by omega) hl, this]
    have hd : Lim 256 ((bs.drop (w * c)).take w) := fun y hy => hl y (List.mem_of_mem_drop (List.mem_of_mem_take hy))
    simp only [List.map_cons, List.map_nil, List.flatten_cons, List.flatten_nil, List.append_nil]
    rw [aiN _ w (by rw [List.length_take, List.length_drop]; omega) hd, List.take_add]
theorem afs {w : Nat} {bs r l : List Nat} (hw : 0 < w) (h : rowS w (some bs) = (l, some r)) (hl : Lim 256 bs) : bs = nX w l ++ r ∧ Lim (256 ^ w) l := by
  unfold rowS at h
  cases hc : cnt (some bs) w with
  | mk c o =>
    rw [hc] at h
    cases o with
    | none => cases h
    | some b2 =>
      simp only [Prod.mk.injEq, Option.some.injEq] at h
      obtain ⟨rfl, rfl⟩ := h
      obtain ⟨n, rfl, e1, e2⟩ := aj6 hc hl
      have hl2 : Lim 256 b2 := fun y hy => hl y (by rw [e1]; exact List.mem_append_right _ hy)
      have hle := ahl hw e2
      rw [Int.toNat_natCast]
      refine ⟨?_, fun x hx => ?_⟩
      · unfold nX
        rw [mw, ah0 n b2 hle hl2, List.append_assoc, List.take_append_drop]
        exact e1
      · obtain ⟨j, _, rfl⟩ := List.mem_map.1 hx
        exact ww (by rw [List.length_take]; omega) (fun y hy => hl2 y (List.mem_of_mem_drop (List.mem_of_mem_take hy)))
def j8 (l : List Int) : List Nat := encL encI l
def pIs : P (List Int) := ofS acD
theorem al3 : Snd pIs j8 := by
  intro bs v r hl h
  have h := sY h
  unfold acD at h
  simp only [Prod.mk.injEq] at h
  obtain ⟨rfl, h2⟩ := h
  obtain ⟨e, hn⟩ := afs (w := 8) (l := (rowS 8 (some bs)).1) (by decide) (Prod.ext rfl h2) hl
  unfold j8 encL
  have : (((rowS 8 (some bs)).1.map sg).map encI) = (rowS 8 (some bs)).1.map (bsBE 8) := by
    rw [List.map_map]
    refine List.map_congr_left fun x hx => ?_
    show bsBE 8 (toU (sg x)) = _
    rw [akl (hn x hx)]
  rw [this, List.length_map]
  exact e
abbrev LR := Bool × List Nat × List Nat
noncomputable def pR : P LR := ofS ratS
theorem pH {bs r : List Nat} {v : LR} (hl : Lim 256 bs) (h : ratS (some bs) = (v, some r)) : bs = encR v ++ r ∧ isQL v.1 v.2.1 v.2.2 ∧ Lim 4294967296 v.2.1 ∧ Lim 4294967296 v.2.2 := by
  unfold ratS at h
  split at h
  · rename_i hg
    simp only [Prod.mk.injEq] at h
    obtain ⟨rfl, h2⟩ := h
    have h1 : (rowS 4 (gB (some bs)).2).2 ≠ none := fun e => by rw [e] at h2; unfold rowS at h2; rw [tJ] at h2; cases h2
    obtain ⟨b2, e2⟩ := Option.ne_none_iff_exists'.1 h1
    have h0 : (gB (some bs)).2 ≠ none := fun e => by rw [e] at e2; unfold rowS at e2; rw [tJ] at e2; cases e2
    obtain ⟨b1, e1⟩ := Option.ne_none_iff_exists'.1 h0
    have g1 := amR bs (gB (some bs)).1 b1 hl (by unfold pF ofS; rw [e1])
    have hl1 : Lim 256 b1 := fun y hy => hl y (by rw [g1]; exact List.mem_append_right _ hy)
    rw [e1] at e2 h2 ⊢
    obtain ⟨g2, l2⟩ := afs (w := 4) (l := (rowS 4 (some b1)).1) (by decide) (Prod.ext rfl e2) hl1
    have hl2 : Lim 256 b2 := fun y hy => hl1 y (by rw [g2]; exact List.mem_append_right _ hy)
    rw [e2] at h2 ⊢
    obtain ⟨g3, l3⟩ := afs (w := 4) (l := (rowS 4 (some b2)).1) (by decide) (Prod.ext rfl h2) hl2
    have hq := hg.2
    rw [e1, e2] at hq
    refine ⟨?_, hq, l2, l3⟩
    unfold encR
    simp only [List.append_assoc]
    rw [← g3, ← g2]
    exact g1
  · cases h
theorem alJ : Snd pR encR := fun bs v r hl h => (pH hl (sY h)).1
noncomputable def pD : P (LR × LR) := pB pR pR
def encD (v : LR × LR) : List Nat := encR v.1 ++ encR v.2
theorem alW : Snd pD encD := alJ.pB alJ
theorem aiH (bs : List Nat) : ofS delS bs = pD bs := by
  unfold pD pB
  show ofS delS bs = (ofS ratS bs).bind fun x => (ofS ratS x.2).map fun y => ((x.1, y.1), y.2)
  unfold ofS
  cases h1 : ratS (some bs) with
  | mk v o =>
    cases o with
    | none =>
      have hn : (ratS (none : St)).2 = none := by
        unfold ratS
        rw [if_neg]
        intro hg
        have := hg.1
        have h0 : gB none = (false, none) := by unfold gB numS; simp [tk, be]
        rw [h0] at this
        simp [rowS, tJ] at this
      have e : delS (some bs) = (((false, [], []), (false, [], [])), none) := by unfold delS; rw [h1]; dsimp only; rw [if_pos hn]
      rw [e]
      rfl
    | some r =>
      simp only [Option.bind_some]
      cases h2 : ratS (some r) with
      | mk v2 o2 =>
        have e : delS (some bs) = (if o2 = none then (((false, [], []), (false, [], [])), none) else ((v, v2), o2)) := by unfold delS; rw [h1]; dsimp only; rw [h2]
        rw [e]
        cases o2 with
        | none => simp
        | some r2 => simp
end Go.Sh.Pk

namespace Go.Sh.Pk
open Go Go.Lift
def Di (lo hi : Nat) (h : Heap) (F : Heap → Prop) : Prop := hi ≤ h.size ∧ ∀ h' : Heap, hi ≤ h'.size → (∀ b, lo ≤ b → b < hi → h'[b]? = h[b]?) → F h'
section
variable {lo hi n m : Nat} {h h' : Heap} {F G : Heap → Prop}
theorem Di.now (d : Di lo hi h F) : F h := d.2 h d.1 fun _ _ _ => rfl
theorem Di.keep {o : Option Nat} (d : Di lo hi h F) (k : Keep o h h') (ho : ∀ b, o = some b → b < lo ∨ hi ≤ b) : Di lo hi h' F :=
  ⟨Nat.le_trans d.1 k.size, fun h2 hs he => d.2 h2 hs fun b h1 h3 => (he b h1 h3).trans (k.same b (Nat.lt_of_lt_of_le h3 d.1) fun e => by have := ho b e.symm; omega)⟩
theorem Di.wide {lo' hi' : Nat} (d : Di lo hi h F) (h1 : lo' ≤ lo) (h2 : hi ≤ hi') (h3 : hi' ≤ h.size) : Di lo' hi' h F :=
  ⟨h3, fun h' hs he => d.2 h' (by omega) fun b b1 b2 => he b (by omega) (by omega)⟩
theorem Di.imp (d : Di lo hi h F) (f : ∀ h, F h → G h) : Di lo hi h G := ⟨d.1, fun h' hs he => f h' (d.2 h' hs he)⟩
theorem Di.and (d : Di lo hi h F) (g : Di lo hi h G) : Di lo hi h fun h => F h ∧ G h := ⟨d.1, fun h' hs he => ⟨d.2 h' hs he, g.2 h' hs he⟩⟩
theorem Di.const (hs : hi ≤ h.size) (f : ∀ h, F h) : Di lo hi h F := ⟨hs, fun h' _ _ => f h'⟩
theorem Di.to (d : Di lo hi h F) (e : Ext h h') : F h' := d.2 h' (Nat.le_trans d.1 e.size) fun b _ h3 => e.same b (Nat.lt_of_lt_of_le h3 d.1) (by simp)
end
theorem ado {h h' : Heap} {a : Addr} (e : h'[a.block]? = h[a.block]?) : ∀ n i, cells? h' a n i = cells? h a n i := by
  intro n
  induction n with
  | zero => intro i; rfl
  | succ n ih =>
    intro i
    have : cell? h' (a.add i) = cell? h (a.add i) := by unfold cell?; rw [aj, e]
    unfold cells?
    rw [ih, this]
theorem RS.blk {α : Type} {toC : α → List Value} {sz : Nat} {h h' : Heap} {s : Sl} {xs : List α} (r : RS toC sz h s xs) (e : ∀ b, s.blk = some b → h'[b]? = h[b]?) : RS toC sz h' s xs :=
  ⟨r.len, fun i hi => by
    obtain ⟨a, ha, hc⟩ := r.cells i hi
    exact ⟨a, ha, (ado (h := h) (h' := h') (a := a.add (i * sz)) (by rw [aj]; exact e _ (by simp [Sl.blk, ha])) sz 0).trans hc⟩⟩
theorem R.blk {α : Type} {toV : α → Value} {h h' : Heap} {s : Sl} {xs : List α} (r : R toV h s xs) (e : ∀ b, s.blk = some b → h'[b]? = h[b]?) : R toV h' s xs := by
  refine ⟨r.len, r.cap, ?_⟩
  have hc := r.cells
  cases ha : s.a with
  | none => rw [ha] at hc; exact hc
  | some a =>
    rw [ha] at hc
    exact (ado (h := h) (h' := h') (a := a) (e _ (by simp [Sl.blk, ha])) s.len 0).trans hc
theorem R.di {α : Type} {toV : α → Value} {h h0 : Heap} {s : Sl} {xs : List α} (r : R toV h s xs) (hb : ∀ b, s.blk = some b → h0.size ≤ b) (hl : ∀ b, s.blk = some b → b < h.size) : Di h0.size h.size h fun h => R toV h s xs :=
  ⟨Nat.le_refl _, fun h' _ he => R.blk r fun b hs => he b (hb b hs) (hl b hs)⟩
structure PJ (h0 : Heap) (a : Addr) (z N : Nat) (h : Heap) (st : St) : Prop where
  p : PI h a z N st
  e : Ext h0 h
  tab : Tab h0
  ha : h0.size ≤ a.block
  hN : h0.size ≤ N
section
variable {h0 h h' : Heap} {a : Addr} {z N : Nat} {st : St}
theorem PJ.t (p : PJ h0 a z N h st) : TL h0 h N := ⟨p.tab, p.e, p.hN⟩
theorem PJ.go {st' : St} (p : PJ h0 a z N h st) (q : PI h' a z N st') (k : Keep (some a.block) h h') : PJ h0 a z N h' st' := ⟨q, fI p.e k (fun b hb => by cases hb; exact p.ha), p.tab, p.ha, p.hN⟩
theorem PJ.ext (p : PJ h0 a z N h st) (e : Ext h h') : PJ h0 a z N h' st := ⟨p.p.ext e, p.e.trans e, p.tab, p.ha, p.hN⟩
theorem PJ.other {o : Option Nat} (p : PJ h0 a z N h st) (k : Keep o h h') (ho : ∀ b, o = some b → N ≤ b) : PJ h0 a z N h' st :=
  ⟨p.p.keep k fun b hb => .inr (ho b hb), fI p.e k fun b hb => Nat.le_trans p.hN (ho b hb), p.tab, p.ha, p.hN⟩
theorem PJ.an (p : PJ h0 a z N h st) : a.block < N ∧ N ≤ h.size := ⟨p.p.am, p.p.ms⟩
def nx {α : Type} (p : P α) (st : St) : St := (st.bind p).map Prod.snd
def TS (h0 : Heap) (a : Addr) (z N : Nat) {α β : Type} (p : P α) (f : Heap → (β → Heap → Prop) → Prop) (R : Heap → β → α → Prop) : Prop :=
  ∀ ⦃h : Heap⦄ ⦃st : St⦄ ⦃Q : β → Heap → Prop⦄, PJ h0 a z N h st → (∀ r h', PJ h0 a z N h' (nx p st) → Keep (some a.block) h h' → (∀ v rest, st.bind p = some (v, rest) → Di h.size h'.size h' fun h => R h r v) → Q r h') → f h Q
variable {α β γ δ : Type} {p : P α} {q : P γ} {f : Heap → (β → Heap → Prop) → Prop} {g : Heap → (δ → Heap → Prop) → Prop} {V : Heap → β → α → Prop} {S : Heap → δ → γ → Prop}
theorem TS.mem (H : TS h0 a z N p f V) : TS h0 a z N p (fun h Q => mem h fun h1 => f h1 Q) V := by
  intro h st Q pj K
  refine ak fun h1 e1 => H (pj.ext e1) fun r h2 p2 k2 d2 => K r h2 p2 ((Keep.of_ext e1).trans k2) fun v rest hv => (d2 v rest hv).wide e1.size (Nat.le_refl _) (Nat.le_refl _)
theorem ad3 (p : P α) (q : P γ) (st : St) : nx (pB p q) st = nx q (nx p st) := by
  cases st with
  | none => rfl
  | some bs =>
    unfold nx pB
    simp only [Option.bind_some]
    cases p bs with
    | none => rfl
    | some x =>
      simp only [Option.bind_some, Option.map_some]
      cases q x.2 with
      | none => rfl
      | some y => rfl
theorem iF {st : St} {v : α × γ} {rest : List Nat} (h : st.bind (pB p q) = some (v, rest)) : ∃ r1, st.bind p = some (v.1, r1) ∧ (nx p st).bind q = some (v.2, rest) := by
  cases st with
  | none => cases h
  | some bs =>
    unfold nx
    simp only [Option.bind_some] at h ⊢
    unfold pB at h
    cases h1 : p bs with
    | none => rw [h1] at h; cases h
    | some x =>
      rw [h1] at h
      simp only [Option.bind_some] at h
      cases h2 : q x.2 with
      | none => rw [h2] at h; cases h
      | some y =>
        rw [h2] at h
        simp only [Option.map_some, Option.some.injEq] at h
        cases h
        exact ⟨x.2, rfl, by simp only [Option.map_some, Option.bind_some]; exact h2⟩
theorem TS.seq (H : TS h0 a z N p f V) (H2 : TS h0 a z N q g S) : TS h0 a z N (pB p q) (fun h Q => f h fun r h1 => g h1 fun s h2 => Q (r, s) h2) (fun h rs v => V h rs.1 v.1 ∧ S h rs.2 v.2) := by
  intro h st Q pj K
  refine H pj fun r h1 p1 k1 d1 => H2 p1 fun s h2 p2 k2 d2 => K (r, s) h2 (by rw [ad3]; exact p2) (k1.trans k2) fun v rest hv => ?_
  obtain ⟨r1, e1, e2⟩ := iF hv
  have s1 := k1.size; have s2 := k2.size
  have := pj.an
  exact (((d1 _ _ e1).keep k2 fun b hb => .inl (by cases hb; omega)).wide (Nat.le_refl _) s2 (Nat.le_refl _)).and ((d2 _ _ e2).wide s1 (Nat.le_refl _) (Nat.le_refl _))
theorem TS.map (c : β → δ) {V' : Heap → δ → α → Prop} (H : TS h0 a z N p f V) (hR : ∀ h r v, V h r v → V' h (c r) v) : TS h0 a z N p (fun h Q => f h fun r h1 => Q (c r) h1) V' := by
  intro h st Q pj K
  exact H pj fun r h1 p1 k1 d1 => K (c r) h1 p1 k1 fun v rest hv => (d1 v rest hv).imp fun h => hR h r v
theorem afJ {β : Type} {f : St → β × St} (hf : (f none).2 = none) (st : St) : nx (ofS f) st = (f st).2 := by
  cases st with
  | none => exact hf.symm
  | some bs =>
    unfold nx ofS
    simp only [Option.bind_some]
    cases h : f (some bs) with
    | mk x y => cases y <;> rfl
theorem wC {β : Type} {f : St → β × St} {st : St} {v : β} {r : List Nat} (h : st.bind (ofS f) = some (v, r)) : ∃ bs, st = some bs ∧ f st = (v, some r) := by
  cases st with
  | none => cases h
  | some bs => exact ⟨bs, rfl, sY h⟩
theorem aju (k : Nat) : (numS none k).2 = none := rfl
theorem ab3 (w : Nat) : (rowS w none).2 = none := by unfold rowS; rw [tJ]
theorem adk : (gB none).2 = none := by unfold gB; split <;> rfl
theorem abl : (ratS none).2 = none := by
  unfold ratS
  split
  · show (rowS 4 _).2 = none
    rw [adk, ab3, ab3]
  · rfl
theorem ts_I : TS h0 a z N pI (fun h Q => aR (some a) h Q) (fun _ r v => r = v) := by
  intro h st Q pj K
  refine abz pj.p fun h1 p1 k1 => K _ h1 (pj.go (by unfold pI; rw [afJ (f := fun st => (sg (numS st 8).1, (numS st 8).2)) (aju 8)]; exact p1) k1) k1 fun v rest hv => Di.const (Nat.le_refl _) fun _ => ?_
  obtain ⟨_, _, e⟩ := wC hv
  exact congrArg Prod.fst e
theorem ts_F : TS h0 a z N pF (fun h Q => gF (some a) h Q) (fun _ r v => r = v) := by
  intro h st Q pj K
  refine ad0 pj.p fun h1 p1 k1 => K _ h1 (pj.go (by unfold pF; rw [afJ adk]; exact p1) k1) k1 fun v rest hv => Di.const (Nat.le_refl _) fun _ => ?_
  obtain ⟨_, _, e⟩ := wC hv
  exact congrArg Prod.fst e
abbrev RJ' (h : Heap) (s : Sl) (xs : List Int) : Prop := R (Value.int .i64) h s xs
theorem R.lt' {α : Type} {toV : α → Value} {h : Heap} {s : Sl} {xs : List α} (r : R toV h s xs) (hne : xs ≠ []) : ∀ b, s.blk = some b → b < h.size := by
  intro b hb
  cases ha : s.a with
  | none => simp [Sl.blk, ha] at hb
  | some x => simp only [Sl.blk, ha, Option.map_some, Option.some.injEq] at hb; rw [← hb]; exact R.lt r ha hne
theorem R.di' {α : Type} {toV : α → Value} {h h0 : Heap} {s : Sl} {xs : List α} (r : R toV h s xs) (hb : ∀ b, s.blk = some b → h0.size ≤ b) : Di h0.size h.size h fun h => R toV h s xs := by
  by_cases hx : xs = []
  · subst hx
    have hl : s.len = 0 := r.len
    have hc := r.cap
    exact Di.const (Nat.le_refl _) fun h' => ⟨hl, hc, by rw [hl]; cases s.a <;> rfl⟩
  · exact R.di r hb (R.lt' r hx)
theorem am6 : TS h0 a z N pIs (fun h Q => cF (some a) 8 (some a) h Q) RJ' := by
  intro h st Q pj K
  refine aiW pj.p fun r h1 hr _ hb p1 k1 => K r h1 (pj.go (by unfold pIs; rw [afJ (f := acD) (ab3 8)]; exact p1) k1) k1 fun v rest hv => ?_
  obtain ⟨_, _, e⟩ := wC hv
  have e : (acD st).1 = v := congrArg Prod.fst e
  rw [← e]
  exact R.di' hr hb
theorem amd : TS h0 a z N pIs (fun h Q => dL (some a) h Q) RJ' := am6.mem
structure RX (h : Heap) (x : Bool × Sl × Sl) (l : LR) : Prop where
  xl : XL h x l
  q : isQL l.1 l.2.1 l.2.2
theorem XL.di {h h0 : Heap} {x : Bool × Sl × Sl} {l : LR} (hx : XL h x l) (b1 : ∀ b, x.2.1.blk = some b → h0.size ≤ b) (b2 : ∀ b, x.2.2.blk = some b → h0.size ≤ b) : Di h0.size h.size h fun h => XL h x l :=
  ((R.di' hx.x.num b1).and (R.di' hx.x.den b2)).imp fun h ⟨p, q⟩ => ⟨hx.neg, ⟨p, hx.x.lnum, q, hx.x.lden⟩, hx.ln, hx.ld⟩
theorem ts_R : TS h0 a z N pR (fun h Q => gf (some a) h Q) RX := by
  intro h st Q pj K
  refine uG pj.t pj.ha pj.p fun r h1 hx b1 b2 p1 k1 => K r h1 (pj.go (by unfold pR; rw [afJ abl]; exact p1) k1) k1 fun v rest hv => ?_
  obtain ⟨bs, rfl, e⟩ := wC hv
  have hq := (pH (bs := bs) pj.p.lim e).2.1
  rw [e] at hx
  exact (XL.di hx b1 b2).imp fun h x => ⟨x, hq⟩
def DX (h : Heap) (x : Bool × Sl × Sl × Bool × Sl × Sl) (l : LR × LR) : Prop := RX h (x.1, x.2.1, x.2.2.1) l.1 ∧ RX h x.2.2.2 l.2
theorem nx_D (st : St) : nx pD st = (delS st).2 := by
  cases st with
  | none => unfold delS; rw [if_pos (by rw [abl, abl])]; rfl
  | some bs =>
    unfold nx
    simp only [Option.bind_some]
    rw [← aiH]
    unfold ofS
    cases h : delS (some bs) with
    | mk x y => cases y <;> rfl
theorem ts_D : TS h0 a z N pD (fun h Q => gT (some a) h Q) DX := by
  intro h st Q pj K
  refine agE pj.t pj.ha pj.p fun r h1 hx hy hb p1 k1 => K r h1 (pj.go (by rw [nx_D]; exact p1) k1) k1 fun v rest hv => ?_
  cases st with
  | none => cases hv
  | some bs =>
    have hv : pD bs = some (v, rest) := hv
    have e : delS (some bs) = (v, some rest) := by rw [← aiH] at hv; exact sY hv
    obtain ⟨r1, e1, e2⟩ := iF (p := pR) (q := pR) (st := some bs) (show pB pR pR bs = some (v, rest) from hv)
    have q1 := (pH (bs := bs) pj.p.lim (sY e1)).2.1
    have hl1 : Lim 256 r1 := fun y hy => pj.p.lim y (by show y ∈ bs; rw [(pH (bs := bs) pj.p.lim (sY e1)).1]; exact List.mem_append_right _ hy)
    have e2 : pR r1 = some (v.2, rest) := by
      have hn : nx pR (some bs) = some r1 := by unfold nx; rw [e1]; rfl
      rw [hn] at e2; exact e2
    have q2 := (pH (bs := r1) hl1 (sY e2)).2.1
    rw [e] at hx hy
    exact ((XL.di hx (fun b h => hb b (.inl h)) (fun b h => hb b (.inr (.inl h)))).and (XL.di hy (fun b h => hb b (.inr (.inr (.inl h)))) (fun b h => hb b (.inr (.inr (.inr h)))))).imp fun h x => ⟨⟨x.1, q1⟩, ⟨x.2, q2⟩⟩
end
def amS {β : Type} (toC : β → List Value) (sz bytes : Nat) (f : Heap → (β → Heap → Prop) → Prop) (in0 : Option Addr) (least : Int) (h : Heap) (Q : Sl → Heap → Prop) : Prop :=
  bI in0 least h fun v h0 =>
  loop (fun (s0 : Sl × Int) h0u1 (K0 : (Sl × Int) → Heap → Prop) =>
   iteB (decide (s0.2 < v)) (
    f h0u1 fun v_1 h0u2 =>
    new (toC v_1) h0u2 fun a h0u3 =>
    aP sz bytes s0.1 (⟨some a, 1, 1⟩ : Sl) h0u3 fun v_3 h0u4 =>
    ah in0 fun a_1 =>
    Lift.load Value.bool (a_1.add 1) h0u4 fun v_4 =>
    iteB v_4 (
     Q Sl.nil h0u4
    ) (
     K0 (v_3, IntKind.wrap .i64 (s0.2 + 1)) h0u4
    )
   ) (
    Q s0.1 h0u1
   )
  ) (Sl.nil, 0) h0
section
variable {h0 h h' : Heap} {a : Addr} {z N : Nat} {st : St} {α β : Type} {p : P α} {f : Heap → (β → Heap → Prop) → Prop} {V : Heap → β → α → Prop}
def amp (R : Heap → β → α → Prop) (m : Nat) (h : Heap) (s : Sl) (y : β) (v : α) : Prop := ∃ lo hi, m ≤ lo ∧ Di lo hi h (fun h => R h y v) ∧ ∀ b, s.blk = some b → b < lo ∨ hi ≤ b
theorem ajT {least c : Int} {bs r : List Nat} (h : cnt (some bs) least = (c, some r)) : (some bs : St).bind (pL p least) = pN p c.toNat r := by
  show pL p least bs = _
  unfold pL; rw [h]
theorem akB {n : Nat} {bs : List Nat} (h : p bs = none) : pN p (n + 1) bs = none := by unfold pN; rw [h]; rfl
theorem akT {n : Nat} {bs r : List Nat} {x : α} (h : p bs = some (x, r)) : pN p (n + 1) bs = (pN p n r).map fun y => (x :: y.1, y.2) := by show (p bs).bind _ = _; rw [h]; rfl
theorem All2.snoc {R : β → α → Prop} {l : List β} {m : List α} {x : β} {y : α} (h : All2 R l m) (hx : R x y) : All2 R (l ++ [x]) (m ++ [y]) := by
  induction h with
  | nil => exact .cons hx .nil
  | cons h _ ih => exact .cons h ih
theorem TS.list {toC : β → List Value} {sz bytes : Nat} {least : Int} (H : TS h0 a z N p f V) (hsz : ∀ x, (toC x).length = sz) (hz0 : 0 < sz) (hone : ∀ x, bT (toC x) = true) (hbytes : bytes ≤ 1024) :
    TS h0 a z N (pL p least) (fun h Q => amS toC sz bytes f (some a) least h Q) (RowQ toC sz V) := by
  intro h st Q pj K
  refine tO pj.p fun h1 p1 k1 => ?_
  have pj1 := pj.go p1 k1
  have hs1 := k1.size
  have han := pj.an
  have bad : (cnt st least).2 = none → nx (pL p least) st = none ∧ ∀ v rest, ¬ st.bind (pL p least) = some (v, rest) := by
    intro hc
    cases st with
    | none => exact ⟨rfl, nofun⟩
    | some bs =>
      have : pL p least bs = none := by
        unfold pL
        cases hcc : cnt (some bs) least with
        | mk c o => rw [hcc] at hc; dsimp only at hc; rw [hc]
      refine ⟨by unfold nx; simp only [Option.bind_some, this]; rfl, fun v rest hv => ?_⟩
      rw [Option.bind_some, this] at hv; cases hv
  rcases wu st least with ⟨bs1, e1, e2, e3, _⟩ | e
  · obtain ⟨c, hc⟩ : ∃ c : Nat, (cnt st least).1 = (c : Int) := ⟨(cnt st least).1.toNat, by omega⟩
    cases st with
    | none => rw [tJ] at e1; cases e1
    | some bs =>
    have hcnt : cnt (some bs) least = ((c : Int), some bs1) := Prod.ext hc e1
    have hbind : (some bs : St).bind (pL p least) = pN p c bs1 := by rw [ajT hcnt, Int.toNat_natCast]
    rw [hc]
    have hcl : c ≤ 1000000 := by
      have hl := p1.len
      rw [e1] at hl
      have hl : bs1.length ≤ 1000000 := hl
      rw [hc] at e3
      have h3 : (bs1.length : Int) / max least 1 ≤ bs1.length := Int.ediv_le_self _ (by omega)
      omega
    rw [hcnt] at pj1
    refine loop.inv (fun (s0 : Sl × Int) h2 => ∃ i : Nat, s0.2 = (i : Int) ∧ i ≤ c ∧ ∃ (ys : List β) (vs : List α) (r : List Nat), vs.length = i ∧ OwnS toC sz h1.size h2 s0.1 ys ∧ s0.1.len ≤ s0.1.cap ∧ All2 (amp V h1.size h2 s0.1) ys vs ∧ PJ h0 a z N h2 (some r) ∧ Keep (some a.block) h1 h2 ∧ pN p c bs1 = (pN p (c - i) r).map fun y => (vs ++ y.1, y.2)) (fun s0 _ => c - s0.2.toNat)
      ⟨0, rfl, Nat.zero_le _, [], [], bs1, rfl, ⟨rfl, [], rfl, by show Own _ _ _ (Sl.sc sz Sl.nil) []; rw [show Sl.sc sz Sl.nil = Sl.nil by simp [Sl.sc, Sl.nil]]; exact Own.nil⟩, Nat.le_refl _, .nil, pj1, Keep.refl _ _, by simp⟩ ?_
    rintro ⟨out, i⟩ h2 ⟨i, rfl, hi, ys, vs, r, hvl, ho, hcap, hall, p2, k2, hpn⟩
    dsimp only at ho hall hcap ⊢
    have hyl : ys.length = i := by rw [hall.length, hvl]
    have hs2 := k2.size
    have ab : ∀ {b : Nat}, (some a.block : Option Nat) = some b → b < h1.size := fun hb => by cases hb; omega
    refine ⟨fun hlt => ?_, fun hge => ?_⟩
    · simp only [decide_eq_true_eq] at hlt
      refine H p2 fun y h3 p3 k3 d3 => ?_
      have hs3 := k3.size
      have ho3 : OwnS toC sz h1.size h3 out ys := ho.keep k3 fun b hb e => by injection e with e; have := (ho.lt hb).1; omega
      refine OwnS.append1 ho3 hsz hz0 (hone y) (by omega) rfl ?_ fun s' h4 o4 k4 b4 => ?_
      · rw [hyl]
        have : (i + 1) * bytes ≤ 1000001 * 1024 := Nat.mul_le_mul (by omega) hbytes
        omega
      have hout : ∀ b, out.blk = some b → N ≤ b := fun b hb => by have := (ho3.lt hb).1; omega
      have p4 := p3.other k4 hout
      have hs4 := k4.size
      obtain ⟨s0, _, c1', _⟩ := p4.p.c
      refine ⟨a, rfl, _, c1', ?_⟩
      have hk4 : Keep (some a.block) h1 h4 := fI (k2.trans k3) k4 fun b hb => by have := (ho3.lt hb).1; omega
      cases hp : p r with
      | none =>
        have hn : nx p (some r) = none := by unfold nx; rw [Option.bind_some, hp]; rfl
        rw [hn]
        refine ⟨fun _ => ?_, fun hb => by simp at hb⟩
        have hall0 : pN p c bs1 = none := by rw [hpn, show c - i = (c - i - 1) + 1 by omega, akB hp]; rfl
        refine K Sl.nil h4 ?_ (k1.trans hk4) fun v rest hv => ?_
        · rw [hn] at p4
          have : nx (pL p least) (some bs) = none := by unfold nx; rw [hbind, hall0]; rfl
          rw [this]; exact p4
        · rw [hbind, hall0] at hv; cases hv
      | some xr =>
        obtain ⟨x, r'⟩ := xr
        have hn : nx p (some r) = some r' := by unfold nx; rw [Option.bind_some, hp]; rfl
        rw [hn] at p4 ⊢
        refine ⟨fun hb => by simp at hb, fun _ => ?_⟩
        rw [w64 (by omega) (by omega)]
        refine ⟨⟨i + 1, rfl, by omega, ys ++ [y], vs ++ [x], r', by simp [hvl], o4, ?_, ?_, p4, hk4, ?_⟩, by (try dsimp only); omega⟩
        · obtain ⟨_, zs, _, ow⟩ := o4
          have := ow.r.cap
          have : s'.len * sz ≤ s'.cap * sz := this
          exact Nat.le_of_mul_le_mul_right this hz0
        · have old : All2 (amp V h1.size h4 s') ys vs := hall.imp fun u v ⟨lo, hi, g1, g2, g3⟩ => by
            have g2' := (g2.keep k3 fun b hb => .inl (by have := ab hb; omega)).keep k4 fun b hb => g3 b hb
            refine ⟨lo, hi, g1, g2', fun b hb => ?_⟩
            rcases b4 with e | e
            · exact g3 b (by rw [← e]; exact hb)
            · have := e b hb; have := g2.1; omega
          refine All2.snoc old ⟨h2.size, h3.size, by omega, ?_, fun b hb => ?_⟩
          · exact (d3 x r' (by rw [Option.bind_some]; exact hp)).keep k4 fun b hb => .inl (ho.lt hb).2
          · rcases b4 with e | e
            · rw [e] at hb; exact .inl (ho.lt hb).2
            · exact .inr (e b hb)
        · rw [hpn, show c - i = (c - (i + 1)) + 1 by omega, akT hp, Option.map_map]
          congr 1
          funext y; simp
    · simp only [decide_eq_false_iff_not] at hge
      have hic : i = c := by omega
      subst hic
      have hfin : pN p i bs1 = some (vs, r) := by rw [hpn, Nat.sub_self]; simp [pN]
      refine K out h2 ?_ (k1.trans k2) fun v rest hv => ?_
      · have : nx (pL p least) (some bs) = some r := by unfold nx; rw [hbind, hfin]; rfl
        rw [this]; exact p2
      · rw [hbind, hfin] at hv
        cases hv
        have hrs := ho.rs hsz hz0
        refine ⟨Nat.le_refl _, fun h' hs he => ⟨hcap, ys, ?_, hall.imp fun u v ⟨lo, hi, g1, g2, g3⟩ => g2.2 h' (Nat.le_trans g2.1 hs) fun b b1 b2 => he b (by omega) (Nat.lt_of_lt_of_le b2 g2.1)⟩⟩
        exact RS.blk hrs fun b hb => he b (by have := (ho.lt hb).1; omega) (ho.lt hb).2
  · obtain ⟨b1, b2⟩ := bad (by rw [e])
    rw [e]
    refine loop.inv (fun (s0 : Sl × Int) h2 => s0 = (Sl.nil, 0) ∧ h2 = h1) (fun _ _ => 0) ⟨rfl, rfl⟩ ?_
    rintro s0 h2 ⟨rfl, rfl⟩
    refine ⟨fun hb => by simp at hb, fun _ => K Sl.nil h2 ?_ k1 fun v rest hv => absurd hv (b2 v rest)⟩
    rw [b1]
    rw [e] at pj1
    exact pj1
end
end Go.Sh.Pk

namespace Go.Sh.Pk
open Go Go.Lift
abbrev LM := Int × LR
abbrev LP := LR × List LM
abbrev LD := LR × LR
abbrev LA := Int × Int × Int × LD
abbrev afj := Int × Int × List LP × List LA × List (List Int) × List Int × List LP
abbrev LC := List Int × Bool × Int
abbrev LSea := ((List LC × List (List Int)) × List (List Int)) × Int
abbrev LE := Int × LD
abbrev LTb := List Int × List LP × List LD × List LE × List LE
abbrev LU := Int × Bool × LE × Int
abbrev LV := afj × (Int × Int) × LSea × (List Int × List Int) × LTb × List LU × Int × List Bool
abbrev LW := LV × List Int
noncomputable def pM : P LM := pB pI pR
noncomputable def pP : P LP := pB pR (pL pM 25)
noncomputable def pA : P LA := pB pI (pB pI (pB pI pD))
def pLL : P (List (List Int)) := pL pIs 8
noncomputable def ag1 : P afj := pB pI (pB pI (pB (pL pP 25) (pB (pL pA 58) (pB pLL (pB pIs (pL pP 25))))))
def pC : P LC := pB pIs (pB pF pI)
def pSea : P LSea := pB (pB (pB (pL pC 17) pLL) (pN pIs 5)) pI
noncomputable def pE : P LE := pB pI pD
noncomputable def pTb : P LTb := pB pIs (pB (pL pP 25) (pB (pL pD 34) (pB (pL pE 42) (pL pE 42))))
noncomputable def pU : P LU := pB pI (pB pF (pB pE pI))
noncomputable def pV : P LV := pB ag1 (pB (pB pI pI) (pB pSea (pB (pB pIs pIs) (pB pTb (pB (pL pU 59) (pB pI (pL pF 1)))))))
noncomputable def pW : P LW := pB pV (pN pI 6)
def eM (v : LM) : List Nat := encI v.1 ++ encR v.2
def eP (v : LP) : List Nat := encR v.1 ++ encL eM v.2
def eA (v : LA) : List Nat := encI v.1 ++ (encI v.2.1 ++ (encI v.2.2.1 ++ encD v.2.2.2))
def eLL (v : List (List Int)) : List Nat := encL j8 v
def aak (v : afj) : List Nat := encI v.1 ++ (encI v.2.1 ++ (encL eP v.2.2.1 ++ (encL eA v.2.2.2.1 ++ (eLL v.2.2.2.2.1 ++ (j8 v.2.2.2.2.2.1 ++ encL eP v.2.2.2.2.2.2)))))
def eC (v : LC) : List Nat := j8 v.1 ++ (encF v.2.1 ++ encI v.2.2)
def eN {α : Type} (e : α → List Nat) (l : List α) : List Nat := (l.map e).flatten
def eSea (v : LSea) : List Nat := ((encL eC v.1.1.1 ++ eLL v.1.1.2) ++ eN j8 v.1.2) ++ encI v.2
def eE (v : LE) : List Nat := encI v.1 ++ encD v.2
def eTb (v : LTb) : List Nat := j8 v.1 ++ (encL eP v.2.1 ++ (encL encD v.2.2.1 ++ (encL eE v.2.2.2.1 ++ encL eE v.2.2.2.2)))
def eU (v : LU) : List Nat := encI v.1 ++ (encF v.2.1 ++ (eE v.2.2.1 ++ encI v.2.2.2))
def eV (v : LV) : List Nat := aak v.1 ++ ((encI v.2.1.1 ++ encI v.2.1.2) ++ (eSea v.2.2.1 ++ ((j8 v.2.2.2.1.1 ++ j8 v.2.2.2.1.2) ++ (eTb v.2.2.2.2.1 ++ (encL eU v.2.2.2.2.2.1 ++ (encI v.2.2.2.2.2.2.1 ++ encL encF v.2.2.2.2.2.2.2))))))
def eW (v : LW) : List Nat := eV v.1 ++ eN encI v.2
theorem Snd.pN {α : Type} {p : P α} {e : α → List Nat} (hp : Snd p e) (n : Nat) : Snd (pN p n) (eN e) := fun bs v r hl h => (akh hp n bs v r hl h).1
theorem anb : Snd pM eM := ai6.pB alJ
theorem anq : Snd pP eP := alJ.pB anb.pL
theorem ano : Snd pA eA := ai6.pB (ai6.pB (ai6.pB alW))
theorem alU : Snd pLL eLL := al3.pL
theorem amu : Snd ag1 aak := ai6.pB (ai6.pB (anq.pL.pB (ano.pL.pB (alU.pB (al3.pB anq.pL)))))
theorem ank : Snd pC eC := al3.pB (amR.pB ai6)
theorem am4 : Snd pSea eSea := ((ank.pL.pB alU).pB (al3.pN 5)).pB ai6
theorem anm : Snd pE eE := ai6.pB alW
theorem am7 : Snd pTb eTb := al3.pB (anq.pL.pB (alW.pL.pB (anm.pL.pB anm.pL)))
theorem ann : Snd pU eU := ai6.pB (amR.pB (anm.pB ai6))
theorem anl : Snd pV eV := amu.pB ((ai6.pB ai6).pB (am4.pB ((al3.pB al3).pB (am7.pB (ann.pL.pB (ai6.pB amR.pL))))))
theorem amE : Snd pW eW := anl.pB (ai6.pN 6)
def MX (h : Heap) (y : Y4) (m : LM) : Prop := y.1 = m.1 ∧ RX h y.2 m.2
def PX (h : Heap) (x : X4) (p : LP) : Prop := RX h (x.1, x.2.1, x.2.2.1) p.1 ∧ RowQ C4 4 MX h x.2.2.2 p.2
def PsX (h : Heap) (s : Sl) (l : List LP) : Prop := RowQ cV 4 PX h s l
def AX (h : Heap) (y : A9) (v : LA) : Prop := y.1 = v.1 ∧ y.2.1 = v.2.1 ∧ y.2.2.1 = v.2.2.1 ∧ DX h y.2.2.2 v.2.2.2
abbrev C1 (s : Sl) : List Value := [Sl.toV s]
abbrev CB (b : Bool) : List Value := [Value.bool b]
def LLX (h : Heap) (s : Sl) (l : List (List Int)) : Prop := RowQ C1 1 RJ' h s l
def ProbX (h : Heap) (x : S7) (v : afj) : Prop := x.1 = v.1 ∧ x.2.1 = v.2.1 ∧ PsX h x.2.2.1 v.2.2.1 ∧ RowQ C9 9 AX h x.2.2.2.1 v.2.2.2.1 ∧ LLX h x.2.2.2.2.1 v.2.2.2.2.1 ∧ RJ' h x.2.2.2.2.2.1 v.2.2.2.2.2.1 ∧ PsX h x.2.2.2.2.2.2 v.2.2.2.2.2.2
def CX (h : Heap) (x : Sl × Bool × Int) (v : LC) : Prop := RJ' h x.1 v.1 ∧ x.2.1 = v.2.1 ∧ x.2.2 = v.2.2
def EX (h : Heap) (x : E7) (v : LE) : Prop := x.1 = v.1 ∧ DX h x.2 v.2
abbrev U10 := Int × Bool × Int × Bool × Sl × Sl × Bool × Sl × Sl × Int
abbrev CU := aQ
def UX (h : Heap) (x : U10) (v : LU) : Prop := x.1 = v.1 ∧ x.2.1 = v.2.1 ∧ EX h (x.2.2.1, x.2.2.2.1, x.2.2.2.2.1, x.2.2.2.2.2.1, x.2.2.2.2.2.2.1, x.2.2.2.2.2.2.2.1, x.2.2.2.2.2.2.2.2.1) v.2.2.1 ∧ x.2.2.2.2.2.2.2.2.2 = v.2.2.2
def TbX (h : Heap) (x : S5) (v : LTb) : Prop := RJ' h x.1 v.1 ∧ PsX h x.2.1 v.2.1 ∧ RowQ C6 6 DX h x.2.2.1 v.2.2.1 ∧ RowQ C7 7 EX h x.2.2.2.1 v.2.2.2.1 ∧ RowQ C7 7 EX h x.2.2.2.2 v.2.2.2.2
abbrev S8 := Sl × Sl × Sl × Sl × Sl × Sl × Sl × Int
structure SeaX (h : Heap) (x : S8) (v : LSea) : Prop where
  cls : RowQ aZ 3 CX h x.1 v.1.1.1
  wat : LLX h x.2.1 v.1.1.2
  rows : All2 (RJ' h) [x.2.2.1, x.2.2.2.1, x.2.2.2.2.1, x.2.2.2.2.2.1, x.2.2.2.2.2.2.1] v.1.2
  nx : x.2.2.2.2.2.2.2 = v.2
section
variable {h0 h h' : Heap} {a : Addr} {z N : Nat}
theorem alb : TS h0 a z N pM (fun h Q => nI (some a) h Q) MX := (ts_I.seq ts_R).mem
theorem als : TS h0 a z N pP (fun h Q => mZ (some a) h Q) PX :=
  TS.mem (TS.map (fun x : (Bool × Sl × Sl) × Sl => (x.1.1, x.1.2.1, x.1.2.2, x.2)) (ts_R.seq (TS.list (toC := C4) (sz := 4) (bytes := 64) (least := 25) alb (fun _ => rfl) (by decide) (fun _ => rfl) (by decide))) fun _ _ _ h => h)
theorem ajp : TS h0 a z N (pL pP 25) (fun h Q => ie (some a) h Q) PsX :=
  (TS.list (toC := cV) (sz := 4) (bytes := 80) (least := 25) als (fun _ => rfl) (by decide) (fun _ => rfl) (by decide)).mem
theorem ak6 : TS h0 a z N pA (fun h Q => nM (some a) h Q) AX := (ts_I.seq (ts_I.seq (ts_I.seq ts_D))).mem
theorem amx : TS h0 a z N (pL pA 58) (fun h Q => cy (some a) 58 (some a) h Q) (RowQ C9 9 AX) :=
  TS.list (toC := C9) (sz := 9) (bytes := 136) (least := 58) ak6 (fun _ => rfl) (by decide) (fun _ => rfl) (by decide)
theorem amw : TS h0 a z N pLL (fun h Q => ci (some a) 8 (some a) h Q) LLX :=
  TS.list (toC := C1) (sz := 1) (bytes := 24) (least := 8) amd (fun _ => rfl) (by decide) (fun _ => rfl) (by decide)
theorem aly : TS h0 a z N ag1 (fun h Q => kq (some a) h Q) ProbX := by
  have H : TS h0 a z N ag1 _ _ := TS.mem (TS.mem (ts_I.seq (TS.mem (ts_I.seq (TS.mem (ajp.seq (amx.seq (amw.seq (amd.seq ajp)))))))))
  intro h st Q pj K
  have := H pj K
  exact fun h1 e1 => seq.dup (this h1 e1)
theorem aiR : TS h0 a z N pC (fun h Q => lp (some a) h Q) CX := (amd.seq (ts_F.seq ts_I)).mem
theorem alA : TS h0 a z N (pL pC 17) (fun h Q => b6 (some a) 17 (some a) h Q) (RowQ aZ 3 CX) :=
  TS.list (toC := aZ) (sz := 3) (bytes := 40) (least := 17) aiR (fun _ => rfl) (by decide) (fun _ => rfl) (by decide)
theorem ak3 : TS h0 a z N pE (fun h Q => kK (some a) h Q) EX := (ts_I.seq ts_D).mem
theorem ajW : TS h0 a z N (pL pE 42) (fun h Q => bJ (some a) 42 (some a) h Q) (RowQ C7 7 EX) :=
  TS.list (toC := C7) (sz := 7) (bytes := 120) (least := 42) ak3 (fun _ => rfl) (by decide) (fun _ => rfl) (by decide)
theorem alX : TS h0 a z N (pL pD 34) (fun h Q => cj (some a) 34 (some a) h Q) (RowQ C6 6 DX) :=
  TS.list (toC := C6) (sz := 6) (bytes := 112) (least := 34) ts_D (fun _ => rfl) (by decide) (fun _ => rfl) (by decide)
theorem amy : TS h0 a z N pTb (fun h Q => mf (some a) h Q) TbX := (amd.seq (ajp.seq (alX.seq (ajW.seq ajW)))).mem
theorem alv : TS h0 a z N pU (fun h Q => m7 (some a) h Q) UX :=
  TS.mem (TS.map (fun x : Int × Bool × E7 × Int => (x.1, x.2.1, x.2.2.1.1, x.2.2.1.2.1, x.2.2.1.2.2.1, x.2.2.1.2.2.2.1, x.2.2.1.2.2.2.2.1, x.2.2.1.2.2.2.2.2.1, x.2.2.1.2.2.2.2.2.2, x.2.2.2)) (ts_I.seq (ts_F.seq (ak3.seq ts_I))) fun _ _ _ h => h)
theorem amC : TS h0 a z N (pL pU 59) (fun h Q => cz (some a) 59 (some a) h Q) (RowQ CU 10 UX) :=
  TS.list (toC := CU) (sz := 10) (bytes := 144) (least := 59) alv (fun _ => rfl) (by decide) (fun _ => rfl) (by decide)
theorem amv : TS h0 a z N (pL pF 1) (fun h Q => dG (some a) 1 (some a) h Q) (RowQ CB 1 fun _ r v => r = v) :=
  TS.list (toC := CB) (sz := 1) (bytes := 1) (least := 1) ts_F (fun _ => rfl) (by decide) (fun _ => rfl) (by decide)
end
structure FK (a c : Nat) (h h' : Heap) : Prop where
  size : h.size ≤ h'.size
  same : ∀ b, b < h.size → b ≠ a → b ≠ c → h'[b]? = h[b]?
theorem FK.refl (a c : Nat) (h : Heap) : FK a c h h := ⟨Nat.le_refl _, fun _ _ _ _ => rfl⟩
theorem FK.trans {a c : Nat} {h h1 h2 : Heap} (k : FK a c h h1) (l : FK a c h1 h2) : FK a c h h2 := ⟨Nat.le_trans k.size l.size, fun b hb h3 h4 => (l.same b (Nat.lt_of_lt_of_le hb k.size) h3 h4).trans (k.same b hb h3 h4)⟩
theorem FK.of {a c : Nat} {h h1 : Heap} {o : Option Nat} (k : Keep o h h1) (ho : ∀ b, o = some b → b = a ∨ b = c) : FK a c h h1 := ⟨k.size, fun b hb h3 h4 => k.same b hb fun e => (ho b e.symm).elim h3 h4⟩
theorem Di.fk {lo hi a c : Nat} {h h' : Heap} {F : Heap → Prop} (d : Di lo hi h F) (k : FK a c h h') (ha : a < lo) (hc : c < lo) : Di lo hi h' F :=
  ⟨Nat.le_trans d.1 k.size, fun h2 hs he => d.2 h2 hs fun b h1 h3 => (he b h1 h3).trans (k.same b (Nat.lt_of_lt_of_le h3 d.1) (by omega) (by omega))⟩
theorem Cs.keep {h h' : Heap} {c : Addr} {L : List Value} {o : Option Nat} (q : Cs h c L) (k : Keep o h h') (ho : o ≠ some c.block) : Cs h' c L :=
  ⟨q.spot, fun j hj => by
    obtain ⟨h1, h2⟩ := q.cell j hj
    exact ⟨ao k h1 (by rw [aj]; exact fun e => ho e.symm), fT k (hO h1) h2 (by rw [aj]; exact fun e => ho e.symm)⟩⟩
def putL (L : List Value) : Nat → List Value → List Value
  | _, [] => L
  | k, v :: vs => putL (L.set k v) (k + 1) vs
theorem rV (vs : List Value) : ∀ (L : List Value) k, (putL L k vs).length = L.length := by
  induction vs with
  | nil => intro L k; rfl
  | cons v vs ih => intro L k; show (putL (L.set k v) (k + 1) vs).length = _; rw [ih]; simp
theorem Cs.stsK {c : Addr} {k : Heap → Prop} (vs : List Value) : ∀ {h : Heap} {L : List Value} (i j : Nat), Cs h c L → j + vs.length ≤ L.length → (∀ h', Cs h' c (putL L j vs) → Keep (some c.block) h h' → h'.size = h.size → lX h (c.add i) vs.length (j - i) ∧ k h') → i ≤ j → lX h (c.add i) vs.length (j - i) ∧ k (ip h (c.add i) vs (j - i)) := by
  induction vs with
  | nil => intro h L i j q _ K _; exact K h q (Keep.refl _ _) rfl
  | cons v vs ih =>
    intro h L i j q hl K hij
    have hl : j + (vs.length + 1) ≤ L.length := hl
    have hadd : (c.add i).add (j - i) = c.add j := by rw [b7]; congr 1; omega
    have q1 := q.set j v (by omega)
    have hk : Keep (some c.block) h (aS h (c.add j) v) := wL c j v h
    have hs : (aS h (c.add j) v).size = h.size := by simp [aS]
    have cs : ∀ n k, k + n ≤ L.length - i → lX h (c.add i) n k := by
      intro n
      induction n with
      | zero => intro k _; trivial
      | succ n ih =>
        intro k hk
        have e : (c.add i).add k = c.add (i + k) := b7 _ _ _
        refine ⟨⟨_, by rw [e]; exact (q.cell (i + k) (by omega)).1⟩, by rw [e]; exact (q.cell (i + k) (by omega)).2, ih _ (by omega)⟩
    refine ⟨cs _ _ (by show j - i + (vs.length + 1) ≤ _; omega), ?_⟩
    show k (ip (aS h ((c.add i).add (j - i)) v) (c.add i) vs (j - i + 1))
    rw [hadd, show j - i + 1 = j + 1 - i by omega]
    refine (ih i (j + 1) q1 (by rw [List.length_set]; omega) (fun h' q' k' s' => ⟨?_, (K h' q' (hk.trans k') (by omega)).2⟩) (by omega)).2
    have : ∀ n k, k + n ≤ L.length - i → lX (aS h (c.add j) v) (c.add i) n k := by
      intro n
      induction n with
      | zero => intro k _; trivial
      | succ n ih =>
        intro k hk
        have e : (c.add i).add k = c.add (i + k) := b7 _ _ _
        refine ⟨⟨_, by rw [e]; exact (q1.cell (i + k) (by rw [List.length_set]; omega)).1⟩, by rw [e]; exact (q1.cell (i + k) (by rw [List.length_set]; omega)).2, ih _ (by omega)⟩
    exact this _ _ (by omega)
theorem Cs.stS {c : Addr} {k : Heap → Prop} {h : Heap} {L : List Value} (q : Cs h c L) (i : Nat) (vs : List Value) (hl : i + vs.length ≤ L.length) (K : ∀ h', Cs h' c (putL L i vs) → Keep (some c.block) h h' → h'.size = h.size → k h') : dk (c.add i) vs h k := by
  have cs : ∀ n k, k + n ≤ L.length - i → lX h (c.add i) n k := by
    intro n
    induction n with
    | zero => intro k _; trivial
    | succ n ih =>
      intro k hk
      have e : (c.add i).add k = c.add (i + k) := b7 _ _ _
      refine ⟨⟨_, by rw [e]; exact (q.cell (i + k) (by omega)).1⟩, by rw [e]; exact (q.cell (i + k) (by omega)).2, ih _ (by omega)⟩
  have := Cs.stsK (k := k) vs i i q hl (fun h' q' k' s' => ⟨by rw [Nat.sub_self]; exact cs _ _ (by omega), K h' q' k' s'⟩) (Nat.le_refl _)
  rw [Nat.sub_self] at this
  exact this
section
variable {h0 h h' : Heap} {a c : Addr} {z N n : Nat} {α β γ δ : Type} {p : P α} {q : P γ} {f : Heap → (β → Heap → Prop) → Prop} {g : Heap → (δ → Heap → Prop) → Prop} {V : Heap → β → α → Prop} {S : Heap → δ → γ → Prop} {u : β → List Value → List Value} {w : δ → List Value → List Value}
def TC (h0 : Heap) (a : Addr) (z N : Nat) (c : Addr) (n : Nat) {α β : Type} (p : P α) (f : Heap → (β → Heap → Prop) → Prop) (V : Heap → β → α → Prop) (u : β → List Value → List Value) : Prop :=
  ∀ ⦃h : Heap⦄ ⦃st : St⦄ ⦃Q : β → Heap → Prop⦄ ⦃L : List Value⦄, PJ h0 a z N h st → Cs h c L → L.length = n → N ≤ c.block → c.block < h.size → (∀ r h', PJ h0 a z N h' (nx p st) → Cs h' c (u r L) → (u r L).length = n → FK a.block c.block h h' → (∀ v rest, st.bind p = some (v, rest) → Di h.size h'.size h' fun h => V h r v) → Q r h') → f h Q
theorem TS.tc (H : TS h0 a z N p f V) : TC h0 a z N c n p f V fun _ L => L := by
  intro h st Q L pj hc hl hN hcs K
  have := pj.an
  exact H pj fun r h1 p1 k1 d1 => K r h1 p1 (Cs.keep hc k1 fun e => by have := Option.some.inj e; omega) hl (FK.of k1 fun b hb => by cases hb; exact .inl rfl) d1
theorem TC.sts (H : TC h0 a z N c n p f V u) (k : Nat) (toC : β → List Value) (hk : ∀ r, k + (toC r).length ≤ n) : TC h0 a z N c n p (fun h Q => f h fun r h1 => dk (c.add k) (toC r) h1 fun h2 => Q r h2) V fun r L => putL (u r L) k (toC r) := by
  intro h st Q L pj hc hl hN hcs K
  refine H pj hc hl hN hcs fun r h1 p1 c1 l1 k1 d1 => Cs.stS c1 k (toC r) (by rw [l1]; exact hk r) fun h2 c2 k2 s2 => ?_
  refine K r h2 (p1.other k2 fun b hb => by cases hb; exact hN) c2 (by rw [rV, l1]) (k1.trans (FK.of k2 fun b hb => by cases hb; exact .inr rfl)) fun v rest hv => ?_
  rw [s2]
  exact (d1 v rest hv).keep k2 fun b hb => by cases hb; exact .inl hcs
theorem TC.st (H : TC h0 a z N c n p f V u) (k : Nat) (toV : β → Value) (hk : k < n) : TC h0 a z N c n p (fun h Q => f h fun r h1 => Lift.amL (c.add k) (toV r) h1 fun h2 => Q r h2) V fun r L => (u r L).set k (toV r) := by
  intro h st Q L pj hc hl hN hcs K
  refine H pj hc hl hN hcs fun r h1 p1 c1 l1 k1 d1 => Cs.st c1 (by rw [l1]; exact hk) fun h2 c2 k2 s2 => ?_
  refine K r h2 (p1.other k2 fun b hb => by cases hb; exact hN) c2 (by rw [List.length_set, l1]) (k1.trans (FK.of k2 fun b hb => by cases hb; exact .inr rfl)) fun v rest hv => ?_
  rw [s2]
  exact (d1 v rest hv).keep k2 fun b hb => by cases hb; exact .inl hcs
theorem acs {i : Nat} (st : St) : nx (pN p (i + 1)) st = nx p (nx (pN p i) st) ∧ ∀ vs rest, st.bind (pN p (i + 1)) = some (vs, rest) → ∃ ws v r, vs = ws ++ [v] ∧ st.bind (pN p i) = some (ws, r) ∧ p r = some (v, rest) := by
  cases st with
  | none => exact ⟨rfl, nofun⟩
  | some bs =>
    have key : ∀ i bs, pN p (i + 1) bs = (pN p i bs).bind fun x => (p x.2).map fun y => (x.1 ++ [y.1], y.2) := by
      intro i
      induction i with
      | zero =>
        intro bs
        show (p bs).bind (fun x => (some (([] : List α), x.2)).map fun y => (x.1 :: y.1, y.2)) = (p bs).map fun y => (([] : List α) ++ [y.1], y.2)
        cases p bs <;> rfl
      | succ i ih =>
        intro bs
        show (p bs).bind (fun x => (pN p (i + 1) x.2).map fun y => (x.1 :: y.1, y.2)) = ((p bs).bind fun x => (pN p i x.2).map fun y => (x.1 :: y.1, y.2)).bind _
        cases p bs with
        | none => rfl
        | some x =>
          simp only [Option.bind_some, ih]
          cases pN p i x.2 with
          | none => rfl
          | some y => simp only [Option.bind_some, Option.map_some]; cases p y.2 <;> rfl
    constructor
    · unfold nx
      simp only [Option.bind_some]
      rw [key]
      cases pN p i bs with
      | none => rfl
      | some x => simp only [Option.bind_some, Option.map_some]; cases p x.2 <;> rfl
    · intro vs rest h
      simp only [Option.bind_some] at h ⊢
      rw [key] at h
      cases hx : pN p i bs with
      | none => rw [hx] at h; cases h
      | some x =>
        rw [hx] at h
        simp only [Option.bind_some] at h
        cases hy : p x.2 with
        | none => rw [hy] at h; cases h
        | some y => rw [hy] at h; cases h; exact ⟨x.1, y.1, x.2, rfl, rfl, hy⟩
theorem TS.loop (H : TS h0 a z N p f V) {m k0 : Nat} {ps : List Value} {toV : β → Value} (hm : k0 + m ≤ n) (hm6 : m ≤ 6) (hps : ∀ j, j < m → ps[j * 1]? = some (Value.pointer (some (c.add (k0 + j))))) {st : St} {L : List Value} {e : Int} {E : Int → Heap → Prop}
    (he : e = (m : Int)) (pj : PJ h0 a z N h st) (hc : Cs h c L) (hl : L.length = n) (hN : N ≤ c.block) (hcs : c.block < h.size)
    (K : ∀ rs h', rs.length = m → PJ h0 a z N h' (nx (pN p m) st) → Cs h' c (putL L k0 (rs.map toV)) → FK a.block c.block h h' → (∀ vs rest, st.bind (pN p m) = some (vs, rest) → Di h.size h'.size h' fun h => All2 (V h) rs vs) → E (m : Int) h') :
    loop (fun (s0 : Int) h1 (K0 : Int → Heap → Prop) => iteB (decide (s0 < e)) (idxV Value.pointer ps m s0 1 fun v => f h1 fun r h2 => ah v fun x => Lift.amL x (toV r) h2 fun h3 => K0 (IntKind.wrap .i64 (s0 + 1)) h3) (E s0 h1)) 0 h := by
  subst he
  have han := pj.an
  refine loop.inv (fun (s0 : Int) h1 => ∃ i : Nat, s0 = (i : Int) ∧ i ≤ m ∧ ∃ rs : List β, rs.length = i ∧ PJ h0 a z N h1 (nx (pN p i) st) ∧ Cs h1 c (putL L k0 (rs.map toV)) ∧ FK a.block c.block h h1 ∧ ∀ vs rest, st.bind (pN p i) = some (vs, rest) → Di h.size h1.size h1 fun h => All2 (V h) rs vs) (fun s0 _ => m - s0.toNat)
    ⟨0, rfl, Nat.zero_le _, [], rfl, by have : nx (pN p 0) st = st := by cases st <;> rfl
                                        rw [this]; exact pj, hc, FK.refl _ _ _, fun vs rest hv => Di.const (Nat.le_refl _) fun _ => by
      cases st with
      | none => cases hv
      | some bs => cases hv; exact .nil⟩ ?_
  rintro _ h1 ⟨i, rfl, hi, rs, hrl, p1, c1, k1, d1⟩
  obtain ⟨e1, e2⟩ := acs (p := p) (i := i) st
  refine ⟨fun hlt => ?_, fun hge => ?_⟩
  · simp only [decide_eq_true_eq] at hlt
    have hlt : i < m := by omega
    refine ⟨⟨by omega, by omega⟩, some (c.add (k0 + i)), by rw [Int.toNat_natCast]; exact hps i hlt, H p1 fun r h2 p2 k2 d2 => ⟨c.add (k0 + i), rfl, ?_⟩⟩
    have s1 := k1.size; have s2 := k2.size
    have c2 : Cs h2 c (putL L k0 (rs.map toV)) := Cs.keep c1 k2 fun e => by have := Option.some.inj e; omega
    refine Cs.st c2 (by rw [rV]; omega) fun h3 c3 k3 s3 => ?_
    rw [w64 (by omega) (by omega)]
    have hput : ∀ (vs : List Value) (L : List Value) k v, (putL L k vs).set (k + vs.length) v = putL L k (vs ++ [v]) := by
      intro vs
      induction vs with
      | nil => intro L k v; rfl
      | cons x vs ih => intro L k v; show (putL (L.set k x) (k + 1) vs).set (k + (vs.length + 1)) v = _; rw [show k + (vs.length + 1) = (k + 1) + vs.length by omega, ih]; rfl
    refine ⟨⟨i + 1, rfl, hlt, rs ++ [r], by simp [hrl], ?_, ?_, (k1.trans (FK.of k2 fun b hb => by cases hb; exact .inl rfl)).trans (FK.of k3 fun b hb => by cases hb; exact .inr rfl), fun vs rest hv => ?_⟩, by omega⟩
    · rw [e1]; exact p2.other k3 fun b hb => by cases hb; exact hN
    · have := hput (rs.map toV) L k0 (toV r)
      rw [List.length_map, hrl] at this
      rw [List.map_append, List.map_cons, List.map_nil, ← this]
      exact c3
    · obtain ⟨ws, v, r1, rfl, g1, g2⟩ := e2 vs rest hv
      have kc : ∀ b, (some c.block : Option Nat) = some b → b < h.size := fun b hb => by cases hb; exact hcs
      have a1 := (((d1 ws r1 g1).keep k2 fun b hb => .inl (by cases hb; omega)).keep k3 fun b hb => .inl (kc b hb)).wide (Nat.le_refl _) (show h1.size ≤ h3.size by omega) (Nat.le_refl _)
      have n1 : nx (pN p i) st = some r1 := by unfold nx; rw [g1]; rfl
      have a2 := ((d2 v rest (by rw [n1]; exact g2)).keep k3 fun b hb => .inl (by have := kc b hb; omega)).wide (show h.size ≤ h1.size by omega) (show h2.size ≤ h3.size by omega) (Nat.le_refl _)
      exact (a1.and a2).imp fun h x => All2.snoc x.1 x.2
  · simp only [decide_eq_false_iff_not] at hge
    have : i = m := by omega
    subst this
    exact K rs h1 hrl p1 c1 k1 d1
end
end Go.Sh.Pk

namespace Go.Sh.Pk
open Go Go.Lift
theorem Cs.allC {h : Heap} {c : Addr} {L : List Value} (q : Cs h c L) : cells? h c L.length 0 = some L :=
  cells?_mk (h := h) (a := c) L 0 fun j hj => by rw [Nat.zero_add]; exact (q.cell j hj).1
theorem Di.tail {lo hi m a c : Nat} {h1 h2 : Heap} {F : Heap → Prop} (d : Di lo hi h1 F) (k : FK a c h1 h2) (ha : a < lo) (hc : c < lo) (hm : m ≤ lo) : Di m h2.size h2 F :=
  (d.fk k ha hc).wide hm (Nat.le_trans d.1 k.size) (Nat.le_refl _)
theorem add0 (c : Addr) : c.add 0 = c := by simp [Addr.add]
theorem FK.out {a c : Nat} {h h1 h2 : Heap} (e : Ext h h1) (k : FK a c h1 h2) (hc : h.size ≤ c) : Keep (some a) h h2 :=
  ⟨Nat.le_trans e.size k.size, fun b hb hne => (k.same b (Nat.lt_of_lt_of_le hb e.size) (fun x => hne (by rw [x])) (by omega)).trans (e.same b hb (by simp))⟩
theorem Cs.again {α : Type} {toC : α → List Value} {n : Nat} {h : Heap} {c : Addr} {x : α} {k : α → Heap → Prop} (q : Cs h c (toC x)) (hn : (toC x).length = n) (hp : putL (toC x) 0 (toC x) = toC x)
    (K : ∀ h', Keep (some c.block) h h' → h'.size = h.size → k x h') : cg toC n c h fun v => dk c (toC v) h fun h1 => cg toC n c h1 fun r => k r h1 := by
  have hall := Cs.allC q
  rw [hn] at hall
  refine ⟨x, hall, ?_⟩
  have := Cs.stS (k := fun h1 => cg toC n c h1 fun r => k r h1) q 0 (toC x) (by omega) fun h1 c1 k1 s1 => ?_
  · rw [add0] at this; exact this
  · rw [hp] at c1
    have h2 := Cs.allC c1
    rw [hn] at h2
    exact ⟨x, h2, K h1 k1 s1⟩
section
variable {h0 h h' : Heap} {a : Addr} {z N : Nat}
theorem alO : TS h0 a z N pSea (fun h Q => kV (some a) h Q) SeaX := by
  intro h st Q pj K
  refine ak fun h1 e1 => tF fun c h2 hc hcb e2 s2 => ?_
  have pj2 := (pj.ext e1).ext e2
  have han := pj.an
  have hs1 := e1.size; have hs2 := e2.size
  refine (alA.tc.st (c := c) (n := 8) 0 Sl.toV (by decide)) pj2 hc rfl (by omega) (by omega) fun r1 h2' p2' c2' l2' k2' d2' => ?_
  have hs2' := k2'.size
  refine (amw.tc.st (c := c) (n := 8) 1 Sl.toV (by decide)) p2' c2' l2' (by omega) (by omega) fun r2 h3 p3 c3 l3 k3 d3 => ?_
  have hs3 := k3.size
  refine TS.loop (E := fun _ h => _) (e := 5) (m := 5) (k0 := 2) (n := 8) (toV := Sl.toV) (c := c) amd (by decide) (by decide) (fun j hj => ?_) rfl p3 c3 l3 (by omega) (by omega) fun rs5 h4 hl5 p4 c4 k4 d4 => ?_
  · match j, hj with
    | 0, _ => rfl
    | 1, _ => rfl
    | 2, _ => rfl
    | 3, _ => rfl
    | 4, _ => rfl
  have hs4 := k4.size
  match rs5, hl5 with
  | [x0, x1, x2, x3, x4], _ =>
  refine ts_I p4 fun v h5 p5 k5 d5 => ?_
  have hs5 := k5.size
  have c5 := Cs.keep c4 k5 fun e => by have := Option.some.inj e; omega
  refine Cs.st c5 (by rw [rV, l3]; decide) fun h6 c6 k6 s6 => ?_
  have c6 : Cs h6 c (ag (r1, r2, x0, x1, x2, x3, x4, v)) := c6
  refine Cs.again c6 rfl rfl fun h7 k7 s7 => ?_
  have kc : ∀ b, (some c.block : Option Nat) = some b → N ≤ b := fun b hb => by cases hb; omega
  have kf : FK a.block c.block h2 h7 := ((((k2'.trans k3).trans k4).trans (FK.of k5 fun b hb => by cases hb; exact .inl rfl)).trans (FK.of k6 fun b hb => by cases hb; exact .inr rfl)).trans (FK.of k7 fun b hb => by cases hb; exact .inr rfl)
  refine K _ h7 ?_ (FK.out (e1.trans e2) kf (by omega)) fun v' rest hv => ?_
  · have e : nx pSea st = nx pI (nx (pN pIs 5) (nx pLL (nx (pL pC 17) st))) := by unfold pSea; rw [ad3, ad3, ad3]
    rw [e]
    exact (p5.other k6 kc).other k7 kc
  · obtain ⟨q1, g1, g2⟩ := iF (p := pB (pB (pL pC 17) pLL) (pN pIs 5)) (q := pI) hv
    obtain ⟨q2, g3, g4⟩ := iF (p := pB (pL pC 17) pLL) (q := pN pIs 5) g1
    obtain ⟨q3, g5, g6⟩ := iF (p := pL pC 17) (q := pLL) g3
    simp only [ad3] at g2 g4
    have f67 : FK a.block c.block h5 h7 := (FK.of k6 fun b hb => by cases hb; exact .inr rfl).trans (FK.of k7 fun b hb => by cases hb; exact .inr rfl)
    have f47 : FK a.block c.block h4 h7 := (FK.of k5 fun b hb => by cases hb; exact .inl rfl).trans f67
    have a0 := Di.tail (d2' _ _ g5) (k3.trans (k4.trans f47)) (by omega) (by omega) (show h.size ≤ h2.size by omega)
    have a1 := Di.tail (d3 _ _ g6) (k4.trans f47) (by omega) (by omega) (show h.size ≤ h2'.size by omega)
    have a2 := Di.tail (d4 _ _ g4) f47 (by omega) (by omega) (show h.size ≤ h3.size by omega)
    have a3 := Di.tail (d5 _ _ g2) f67 (by omega) (by omega) (show h.size ≤ h4.size by omega)
    exact (((a0.and a1).and a2).and a3).imp fun h x => ⟨x.1.1.1, x.1.1.2, x.1.2, x.2⟩
abbrev S33 := Int × Int × Sl × Sl × Sl × Sl × Sl × Int × Int × Sl × Sl × Sl × Sl × Sl × Sl × Sl × Int × Sl × Sl × Sl × Sl × Sl × Sl × Sl × Sl × Int × Sl × Int × Int × Int × Int × Int × Int
abbrev C33 := ae
abbrev Pt := S7 × (Int × Int) × S8 × (Sl × Sl) × S5 × Sl × Int × Sl
def mk33 (x : Pt) (n1 n2 n3 n4 n5 n6 : Int) : S33 :=
  (x.1.1, x.1.2.1, x.1.2.2.1, x.1.2.2.2.1, x.1.2.2.2.2.1, x.1.2.2.2.2.2.1, x.1.2.2.2.2.2.2, x.2.1.1, x.2.1.2, x.2.2.1.1, x.2.2.1.2.1, x.2.2.1.2.2.1, x.2.2.1.2.2.2.1, x.2.2.1.2.2.2.2.1, x.2.2.1.2.2.2.2.2.1, x.2.2.1.2.2.2.2.2.2.1, x.2.2.1.2.2.2.2.2.2.2,
   x.2.2.2.1.1, x.2.2.2.1.2, x.2.2.2.2.1.1, x.2.2.2.2.1.2.1, x.2.2.2.2.1.2.2.1, x.2.2.2.2.1.2.2.2.1, x.2.2.2.2.1.2.2.2.2, x.2.2.2.2.2.1, x.2.2.2.2.2.2.1, x.2.2.2.2.2.2.2, n1, n2, n3, n4, n5, n6)
structure PtX (h : Heap) (x : Pt) (v : LV) : Prop where
  pr : ProbX h x.1 v.1
  li : x.2.1 = v.2.1
  se : SeaX h x.2.2.1 v.2.2.1
  q1 : RJ' h x.2.2.2.1.1 v.2.2.2.1.1
  q2 : RJ' h x.2.2.2.1.2 v.2.2.2.1.2
  ta : TbX h x.2.2.2.2.1 v.2.2.2.2.1
  un : RowQ CU 10 UX h x.2.2.2.2.2.1 v.2.2.2.2.2.1
  as : x.2.2.2.2.2.2.1 = v.2.2.2.2.2.2.1
  ph : RowQ CB 1 (fun _ r v => r = v) h x.2.2.2.2.2.2.2 v.2.2.2.2.2.2.2
def WX (h : Heap) (s : S33) (v : LW) : Prop := ∃ x n1 n2 n3 n4 n5 n6, s = mk33 x n1 n2 n3 n4 n5 n6 ∧ PtX h x v.1 ∧ v.2 = [n1, n2, n3, n4, n5, n6]
theorem alt {l m : List Int} (h : All2 (fun r v => r = v) l m) : l = m := by
  induction h with
  | nil => rfl
  | cons h _ ih => rw [h, ih]
end
end Go.Sh.Pk

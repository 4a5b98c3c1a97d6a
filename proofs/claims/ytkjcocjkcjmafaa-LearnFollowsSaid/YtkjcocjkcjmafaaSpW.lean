/-
  Laws that the proof of this claim's statement leans on, each proved under the conditions that it states.
-/
import Derived.Test.YtkjcocjkcjmafaaSpE
set_option linter.unusedVariables false
set_option linter.unusedSimpArgs false
namespace Go.Sh
open Go Go.Lift Go.Cla
variable {S : SS}
def IsLvl (hea : List Int) (i k : Nat) : Prop := k ≤ hea.length ∧ (∀ j, j < k → atI hea j ≤ (i : Int)) ∧ (k < hea.length → (i : Int) < atI hea k)
theorem IsLvl.one {hea : List Int} {i k m : Nat} (h : IsLvl hea i k) (h2 : IsLvl hea i m) : k = m := by
  rcases Nat.lt_trichotomy k m with g | g | g
  · have := h2.2.1 k g
    have := h.2.2 (by have := h2.1; omega)
    omega
  · exact g
  · have := h.2.1 m g
    have := h2.2.2 (by have := h.1; omega)
    omega
theorem IsLvl.up {hea : List Int} {i k : Nat} (h : IsLvl hea i k) : ∀ j, j < k → atI hea j ≤ ((i + 1 : Nat) : Int) := fun j hj => by have := h.2.1 j hj; omega
def tl (S : SS) (i : Nat) : Int := atI S.tra i
structure Trk (S : SS) (i : Nat) : Prop where
  th : There S.val.length (tl S i)
  fst : ∀ j, j < i → tr (tl S j) ≠ tr (tl S i)
  sgn : atI S.val (tr (tl S i)) = sg (tl S i)
  lev : ∃ k, IsLvl S.hea i k ∧ atI S.lev (tr (tl S i)) = (k : Int)
structure Hk (S : SS) (i : Nat) : Prop where
  lo : 0 ≤ atI S.hea i
  hi : atI S.hea i < (S.tra.length : Int)
  mo : 0 < i → atI S.hea (i - 1) < atI S.hea i
  re : atI S.rea (tr (tl S (atI S.hea i).toNat)) = -1
def Fk (S : SS) (v : Nat) : Prop := (∀ i, i < S.tra.length → tr (tl S i) ≠ v) → atI S.val v = 0 ∧ atI S.lev v = 0 ∧ atI S.rea v = -1
def RkP (S : SS) (i : Nat) : Prop := atI S.rea (tr (tl S i)) = -1 ∨ ∃ c : Nat, atI S.rea (tr (tl S i)) = (c : Int) ∧ c < S.cls.length ∧ tl S i ∈ (S.cl c).lits ∧ ∀ m ∈ (S.cl c).lits, m ≠ tl S i → (∃ j, j < i ∧ tr (tl S j) = tr m) ∧ vl S.val m = -1
def RkR (S : SS) (v : Nat) : Prop := atI S.rea v = -1 ∨ ∃ c : Nat, atI S.rea v = (c : Int) ∧ c < S.cls.length ∧ (∀ m ∈ (S.cl c).lits, tr m ≠ v → (∃ j i, i < S.tra.length ∧ tr (tl S i) = v ∧ j < i ∧ tr (tl S j) = tr m) ∧ vl S.val m = -1) ∧ ∃ m ∈ (S.cl c).lits, tr m = v ∧ sg m = atI S.val v
def Ck (S : SS) (i : Nat) : Prop := 0 ≤ (S.cl i).use ∧ FitsL S.val.length (S.cl i).lits
def total (W : List (List Int)) : Nat := (W.map List.length).sum
def Wk2 (S : SS) (i k : Nat) : Prop := (S.wt (wch (lit S i k))).count (i : Int) = 1
structure RightS (S : SS) (nx : Int) : Prop where
  wlen : S.wat.length = 2 * S.val.length
  llen : S.lev.length = S.val.length
  rlen : S.rea.length = S.val.length
  nlo : 0 ≤ nx
  nhi : nx ≤ (S.tra.length : Int)
  cls : ∀ i, i < S.cls.length → Ck S i
  tot : total S.wat = 2 * S.cls.length
  wat : ∀ i, i < S.cls.length → ∀ k, k < 2 → Wk2 S i k
  tra : ∀ i, i < S.tra.length → Trk S i
  hea : ∀ i, i < S.hea.length → Hk S i
  fre : ∀ v, v < S.val.length → Fk S v
  rea : ∀ i, i < S.tra.length → RkP S i
theorem trk_one (h : ∀ i, i < S.tra.length → Trk S i) {i j : Nat} (hi : i < S.tra.length) (hj : j < S.tra.length) (e : tr (tl S i) = tr (tl S j)) : i = j := by
  rcases Nat.lt_trichotomy i j with g | g | g
  · exact absurd e ((h j hj).fst i g)
  · exact g
  · exact absurd e.symm ((h i hi).fst j g)
theorem tri_of (h1 : ∀ i, i < S.tra.length → Trk S i) (h2 : ∀ v, v < S.val.length → Fk S v) : Tri S.val := by
  intro y hy
  obtain ⟨v, hv, rfl⟩ := mem_at hy
  by_cases h : ∀ i, i < S.tra.length → tr (tl S i) ≠ v
  · exact .inr (.inl (h2 v hv h).1)
  · have ⟨i, h⟩ := Classical.not_forall.1 h
    have ⟨hi, h⟩ := Classical.not_imp.1 h
    have h := Classical.not_not.1 h
    have := (h1 i hi).sgn
    rw [h] at this
    rw [this]
    rcases sg_or (tl S i) with g | g <;> rw [g] <;> simp
theorem rea_iff (hc : ∀ i, i < S.cls.length → Ck S i) (ht : ∀ i, i < S.tra.length → Trk S i) (hf : ∀ v, v < S.val.length → Fk S v) : (∀ i, i < S.tra.length → RkP S i) ↔ ∀ v, v < S.val.length → RkR S v := by
  constructor
  · intro h v hv
    by_cases h0 : ∀ i, i < S.tra.length → tr (tl S i) ≠ v
    · exact .inl (hf v hv h0).2.2
    have ⟨i, h0⟩ := Classical.not_forall.1 h0
    have ⟨hi, h0⟩ := Classical.not_imp.1 h0
    have h0 := Classical.not_not.1 h0
    have T := ht i hi
    rcases h i hi with g | ⟨c, g1, g2, g3, g4⟩
    · rw [h0] at g; exact .inl g
    · rw [h0] at g1
      refine .inr ⟨c, g1, g2, fun m hm hne => ?_, tl S i, g3, h0, ?_⟩
      · have hml : m ≠ tl S i := fun e => hne (by rw [e]; exact h0)
        obtain ⟨⟨j, hj, e⟩, hv⟩ := g4 m hm hml
        exact ⟨⟨j, i, hi, h0, hj, e⟩, hv⟩
      · have := T.sgn; rw [h0] at this; exact this.symm
  · intro h i hi
    have T := ht i hi
    rcases h _ T.th.tr with g | ⟨c, g1, g2, g3, m, hm, g4, g5⟩
    · exact .inl g
    · have F := (hc c g2).2
      rw [T.sgn] at g5
      have em : m = tl S i := lit_same (F.1 m hm).1 T.th.1 g4 g5
      subst em
      refine .inr ⟨c, g1, g2, hm, fun k hk hne => ?_⟩
      have htr : tr k ≠ tr (tl S i) := fun e => by
        obtain ⟨a, ha, ea⟩ := mem_at hk
        obtain ⟨b, hb, eb⟩ := mem_at hm
        have hab : a = b := nodup_at F.2.1 ha hb (by rw [ea, eb]; exact e)
        exact hne (by rw [← ea, ← eb, hab])
      obtain ⟨⟨j, i', hi', e1, hj, e2⟩, hv⟩ := g3 k hk htr
      have : i' = i := trk_one ht hi' hi e1
      subst this
      exact ⟨⟨j, hj, e2⟩, hv⟩
def pairsW (W : List (List Int)) : Nat → List (Nat × Int)
  | 0 => []
  | m + 1 => pairsW W m ++ (W.getD m []).map fun e => (m, e)
theorem pairs_mem {W : List (List Int)} {m w : Nat} {e : Int} : (w, e) ∈ pairsW W m ↔ w < m ∧ e ∈ W.getD w [] := by
  induction m with
  | zero => simp [pairsW]
  | succ m ih =>
    simp only [pairsW, List.mem_append, ih, List.mem_map, Prod.mk.injEq]
    constructor
    · rintro (⟨h1, h2⟩ | ⟨e', h1, rfl, rfl⟩)
      · exact ⟨by omega, h2⟩
      · exact ⟨by omega, h1⟩
    · rintro ⟨h1, h2⟩
      by_cases g : w = m
      · subst g; exact .inr ⟨e, h2, rfl, rfl⟩
      · exact .inl ⟨by omega, h2⟩
theorem total_take {W : List (List Int)} {m : Nat} (hm : m < W.length) : total (W.take (m + 1)) = total (W.take m) + (W.getD m []).length := by
  unfold total
  rw [List.take_succ_eq_append_getElem hm, List.map_append, List.sum_append, List.getD_eq_getElem?_getD, List.getElem?_eq_getElem hm]
  simp
theorem pairs_len {W : List (List Int)} {m : Nat} (hm : m ≤ W.length) : (pairsW W m).length = total (W.take m) := by
  induction m with
  | zero => simp [pairsW, total]
  | succ m ih => rw [total_take (by omega), ← ih (by omega)]; simp [pairsW]
end Go.Sh

namespace Go.Sh
open Go Go.Lift Go.Cla
variable {h h' h0 : Heap} {p : Addr} {x : S8} {S : SS} {nx : Int} {n : Nat}
abbrev Y3 := Sl × Bool × Int
structure SRd (h : Heap) (x : S8) (S : SS) (nx : Int) : Prop where
  clen : x.1.len = S.cls.length
  cls : ∃ ys : Nat → Sl, ∀ i, i < S.cls.length → ∃ a, x.1.a = some a ∧ cells? h (a.add (i * 3)) 3 0 = some (C_sl_bool_i64 (ys i, (S.cl i).learned, (S.cl i).use)) ∧ RJ h (ys i) (S.cl i).lits
  wat : ∃ ss, RR h x.2.1 ss S.wat
  val : RJ h x.2.2.1 S.val
  lev : RJ h x.2.2.2.1 S.lev
  rea : RJ h x.2.2.2.2.1 S.rea
  tra : RJ h x.2.2.2.2.2.1 S.tra
  hea : RJ h x.2.2.2.2.2.2.1 S.hea
  nx : x.2.2.2.2.2.2.2 = nx
theorem cells_ext (e : Ext h h') {a : Addr} {n i : Nat} {l : List Value} (hc : cells? h a n i = some l) : cells? h' a n i = some l := by
  induction n generalizing i l with
  | zero => exact hc
  | succ n ih =>
    simp only [cells?] at hc ⊢
    split at hc <;> simp at hc
    rename_i v r h2 h3
    subst hc
    rw [cell_keep e h2 (by simp), ih h3]
theorem SRd.ext (q : SRd h x S nx) (e : Ext h h') : SRd h' x S nx := by
  obtain ⟨ys, hy⟩ := q.cls
  obtain ⟨ss, hs⟩ := q.wat
  exact ⟨q.clen, ⟨ys, fun i hi => by obtain ⟨a, h1, h2, h3⟩ := hy i hi; exact ⟨a, h1, cells_ext e h2, R.ext h3 e⟩⟩, ⟨ss, hs.ext e⟩, R.ext q.val e, R.ext q.lev e, R.ext q.rea e, R.ext q.tra e, R.ext q.hea e, q.nx⟩
theorem SRd.wlen (q : SRd h x S nx) : x.2.1.len = S.wat.length := by obtain ⟨ss, hs⟩ := q.wat; rw [hs.r.len, hs.len]
theorem SRd.clE {hh : Heap} (q : SRd h x S nx) (e : Ext h hh) {i : Int} {j : Nat} {k : Sl → Prop} (hi : i = (j : Int)) (hj : j < S.cls.length) (K : ∀ s, RJ h s (S.cl j).lits → k s) : idxS x.1 i 3 fun a => Lift.load Sl.toV (a.add 0) hh k := by
  subst hi
  obtain ⟨ys, hy⟩ := q.cls
  obtain ⟨a, h1, h2, h3⟩ := hy j hj
  refine ⟨a, h1, ⟨by omega, by have := q.clen; omega⟩, ys j, ?_, K _ h3⟩
  have := cells?_get _ _ _ h2 0 (by simp [C_sl_bool_i64])
  exact cell_keep e (by simpa [C_sl_bool_i64] using this) (by simp)
theorem SRd.clSE {hh : Heap} (q : SRd h x S nx) (e : Ext h hh) {i : Int} {j : Nat} {k : Y3 → Prop} (hi : i = (j : Int)) (hj : j < S.cls.length) (K : ∀ s, RJ h s (S.cl j).lits → k (s, (S.cl j).learned, (S.cl j).use)) : idxS x.1 i 3 fun a => loadS C_sl_bool_i64 3 a hh k := by
  subst hi
  obtain ⟨ys, hy⟩ := q.cls
  obtain ⟨a, h1, h2, h3⟩ := hy j hj
  exact ⟨a, h1, ⟨by omega, by have := q.clen; omega⟩, _, by simpa using cells_ext e h2, K _ h3⟩
theorem SRd.wtE {hh : Heap} (q : SRd h x S nx) (e : Ext h hh) {i : Int} {j : Nat} {k : Sl → Prop} (hi : i = (j : Int)) (hj : j < S.wat.length) (K : ∀ s, RJ h s (S.wt j) → k s) : idxS x.2.1 i 1 fun a => Lift.load Sl.toV a hh k := by
  subst hi
  obtain ⟨ss, hs⟩ := q.wat
  have hj' : j < ss.length := by rw [hs.len]; exact hj
  obtain ⟨a, ha, hc⟩ := hs.r.get hj'
  have : S.wt j = S.wat[j] := by unfold SS.wt; rw [List.getD_eq_getElem?_getD, List.getElem?_eq_getElem hj]; rfl
  refine ⟨a, ha, ⟨by omega, by have := hs.r.len; omega⟩, _, ?_, K _ (by rw [this]; exact hs.i j hj' hj)⟩
  simpa using cell_keep e hc (by simp)
structure PR (h : Heap) (p : Addr) (x : S8) (S : SS) (nx : Int) : Prop where
  rd : SRd h x S nx
  all : cells? h p 8 0 = some (C_sl_sl_sl_sl_sl_sl_sl_i64 x)
section
theorem PR.ext (q : PR h p x S nx) (e : Ext h h') : PR h' p x S nx := ⟨q.rd.ext e, cells_ext e q.all⟩
theorem PR.c (q : PR h p x S nx) (k : Nat) (hk : k < 8) : cell? h (p.add k) = some ((C_sl_sl_sl_sl_sl_sl_sl_i64 x)[k]'hk) := by
  have := cells?_get _ _ _ q.all k hk
  simpa using this
theorem PR.l0 (q : PR h p x S nx) {k : Sl → Prop} (K : k x.1) : Lift.load Sl.toV (p.add 0) h k := ⟨_, q.c 0 (by decide), K⟩
theorem PR.l1 (q : PR h p x S nx) {k : Sl → Prop} (K : k x.2.1) : Lift.load Sl.toV (p.add 1) h k := ⟨_, q.c 1 (by decide), K⟩
theorem PR.l2 (q : PR h p x S nx) {k : Sl → Prop} (K : k x.2.2.1) : Lift.load Sl.toV (p.add 2) h k := ⟨_, q.c 2 (by decide), K⟩
theorem PR.l3 (q : PR h p x S nx) {k : Sl → Prop} (K : k x.2.2.2.1) : Lift.load Sl.toV (p.add 3) h k := ⟨_, q.c 3 (by decide), K⟩
theorem PR.l4 (q : PR h p x S nx) {k : Sl → Prop} (K : k x.2.2.2.2.1) : Lift.load Sl.toV (p.add 4) h k := ⟨_, q.c 4 (by decide), K⟩
theorem PR.vlen (q : PR h p x S nx) : x.2.2.1.len = S.val.length := q.rd.val.len
theorem PR.there (q : PR h p x S nx) {l : Int} {Q : Bool → Heap → Prop} (hn : S.val.length ≤ 1048576) (K : Q (decide (There S.val.length l)) h) : clause_there (some p) l h Q :=
  there_spec (q.c 2 (by decide)) q.vlen hn K
theorem PR.value (q : PR h p x S nx) {l : Int} {Q : Int → Heap → Prop} (hn : S.val.length ≤ 1048576) (ht : Tri S.val) (K : ∀ h', Ext h h' → Q (vl S.val l) h') : nilChk (some p) fun a => loadS C_sl_sl_sl_sl_sl_sl_sl_i64 8 a h fun v => clause_Value (v.1, v.2.1, v.2.2.1, v.2.2.2.1, v.2.2.2.2.1, v.2.2.2.2.2.1, v.2.2.2.2.2.2.1, v.2.2.2.2.2.2.2) l h Q :=
  ⟨p, rfl, x, q.all, Value_spec q.rd.val hn ht K⟩
end
end Go.Sh

namespace Go.Sh
open Go Go.Lift Go.Cla
variable {h h' h0 : Heap} {p : Addr} {x : S8} {S : SS} {nx : Int} {n : Nat}
def MPp (h : Heap) (mp : Nat) (g : K2 → Int) : Prop := ∃ f : List (K2 × Int), mapEsP .i64 h (some mp) (valsP (Value.int .i64) f) ∧ ∀ k, (f.lookup k).getD 0 = g k
section
variable {mp : Nat} {g : K2 → Int}
theorem MPp.lt (p : MPp h mp g) : mp < h.size := by
  obtain ⟨f, ⟨es, c, h1, h2⟩, h3⟩ := p
  exact (Array.getElem?_eq_some_iff.1 h1).1
theorem MPp.ext (p : MPp h mp g) (k : Ext h h') : MPp h' mp g := by
  obtain ⟨f, ⟨es, c, h1, h2⟩, h3⟩ := p
  exact ⟨f, ⟨es, c, by rw [k.same mp (Array.getElem?_eq_some_iff.1 h1).1 (by simp)]; exact h1, h2⟩, h3⟩
theorem MPp.look (p : MPp h mp g) {key : K2} {k : Int × Bool → Prop} (K : ∀ b, k (g key, b)) : lookMP .i64 (Value.int .i64) 0 (some mp) key h k := by
  obtain ⟨f, h1, h2⟩ := p
  refine ⟨f, _, h1, rfl, ?_⟩
  have h2 := h2 key
  cases hg : f.lookup key with
  | none => rw [hg] at h2; have := K false; rw [← h2] at this; exact this
  | some v => rw [hg] at h2; have := K true; rw [← h2] at this; exact this
theorem MPp.new {k : Option Nat → Heap → Prop} (K : ∀ h', MPp h' h.size (fun _ => 0) → Ext h h' → h'.size = h.size + 1 → k (some h.size) h') : newM h k :=
  K _ ⟨[], ⟨#[], 0, by simp, ⟨rfl, by simp, fun e he => by simp at he, by simp [valsP]⟩⟩, fun _ => rfl⟩ (Ext.push _ _) (by simp)
end
def tk (y : Nat × Int) : K2 := ((y.1 : Int), y.2)
end Go.Sh

namespace Go.Sh
open Go Go.Lift Go.Cla
variable {h h' h0 : Heap} {p : Addr} {x : S8} {S : SS} {nx : Int} {n : Nat}
theorem RJ.ldE {hh : Heap} {s : Sl} {xs : List Int} (hr : RJ h s xs) (e : Ext h hh) {i : Int} {j : Nat} {k : Int → Prop} (hij : i = (j : Int)) (hj : j < xs.length) (K : k (atI xs j)) : idxS s i 1 fun a => Lift.load (Value.int .i64) a hh k :=
  RJ.ld (R.ext hr e) hij hj K
theorem RJ.ld2E {hh : Heap} {s : Sl} {xs : List Int} (hr : RJ h s xs) (e : Ext h hh) {i : Int} {j : Nat} {k : Addr → Int → Prop} (hij : i = (j : Int)) (hj : j < xs.length) (K : ∀ a, cell? h a = some (Value.int .i64 (atI xs j)) → k a (atI xs j)) : idxS s i 1 fun a => Lift.load (Value.int .i64) a hh (k a) := by
  subst hij
  obtain ⟨a, ha, hc⟩ := R.get hr hj
  have hl := hr.len
  have e2 : atI xs j = xs[j] := at_get hj
  rw [← e2] at hc
  refine ⟨a, ha, ⟨by omega, by omega⟩, _, ?_, K _ ?_⟩
  · simpa using cell_keep e hc (by simp)
  · simpa using hc
def PlG (S : SS) (i : Nat) (g : Int → Option Int) : Prop := (∀ j, j < i → g (tr (tl S j) : Int) = some (j : Int)) ∧ ∀ v : Nat, (∀ j, j < i → tr (tl S j) ≠ v) → g (v : Int) = none
theorem PlG.succ {i : Nat} {g : Int → Option Int} (hp : PlG S i g) (hf : ∀ j, j < i → tr (tl S j) ≠ tr (tl S i)) : PlG S (i + 1) (fun k => if k = (tr (tl S i) : Int) then some (i : Int) else g k) := by
  refine ⟨fun j hj => ?_, fun v hv => ?_⟩
  · by_cases e : j = i
    · subst e; simp
    · have hji : j < i := by omega
      have := hf j hji
      dsimp only
      rw [if_neg (by omega)]
      exact hp.1 j hji
  · dsimp only
    rw [if_neg (by have := hv i (by omega); omega)]
    exact hp.2 v fun j hj => hv j (by omega)
end Go.Sh

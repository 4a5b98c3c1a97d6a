/-
  Laws that the proof of this claim's statement leans on, each proved under the conditions that it states.
-/
import Derived.Test.YtmcfhickfcmkkaaGreatDoorNB
set_option linter.unusedVariables false
set_option linter.unusedSimpArgs false
namespace Go.Sh.Cl
open Go Go.Lift Go.Cla
variable {S : SS}
def IsLvl (hea : List Int) (i k : Nat) : Prop := k ≤ hea.length ∧ (∀ j, j < k → atI hea j ≤ (i : Int)) ∧ (k < hea.length → (i : Int) < atI hea k)
theorem IsLvl.one {hea : List Int} {i k m : Nat} (h : IsLvl hea i k) (h2 : IsLvl hea i m) : k = m := by
  rcases Nat.lt_trichotomy k m with g | g | g
  · have := h2.2.1 k g
    have := h.2.2 (by have := h2.1; omega)
    omega
  · exact g
  · have := h.2.1 m g
    have := h2.2.2 (by have := h.1; omega)
    omega
def tl (S : SS) (i : Nat) : Int := atI S.tra i
structure Trk (S : SS) (i : Nat) : Prop where
  th : There S.val.length (tl S i)
  fst : ∀ j, j < i → tr (tl S j) ≠ tr (tl S i)
  sgn : atI S.val (tr (tl S i)) = sg (tl S i)
  lev : ∃ k, IsLvl S.hea i k ∧ atI S.lev (tr (tl S i)) = (k : Int)
structure Hk (S : SS) (i : Nat) : Prop where
  lo : 0 ≤ atI S.hea i
  hi : atI S.hea i < (S.tra.length : Int)
  mo : 0 < i → atI S.hea (i - 1) < atI S.hea i
  re : atI S.rea (tr (tl S (atI S.hea i).toNat)) = -1
def Fk (S : SS) (v : Nat) : Prop := (∀ i, i < S.tra.length → tr (tl S i) ≠ v) → atI S.val v = 0 ∧ atI S.lev v = 0 ∧ atI S.rea v = -1
def RkP (S : SS) (i : Nat) : Prop := atI S.rea (tr (tl S i)) = -1 ∨ ∃ c : Nat, atI S.rea (tr (tl S i)) = (c : Int) ∧ c < S.cls.length ∧ tl S i ∈ (S.cl c).lits ∧ ∀ m ∈ (S.cl c).lits, m ≠ tl S i → (∃ j, j < i ∧ tr (tl S j) = tr m) ∧ vl S.val m = -1
def Ck (S : SS) (i : Nat) : Prop := 0 ≤ (S.cl i).use ∧ FitsL S.val.length (S.cl i).lits
def ab9 (W : List (List Int)) : Nat := (W.map List.length).sum
def Wk2 (S : SS) (i k : Nat) : Prop := (S.wt (wch (lit S i k))).count (i : Int) = 1
structure RightS (S : SS) (nx : Int) : Prop where
  wlen : S.wat.length = 2 * S.val.length
  llen : S.lev.length = S.val.length
  rlen : S.rea.length = S.val.length
  nlo : 0 ≤ nx
  nhi : nx ≤ (S.tra.length : Int)
  cls : ∀ i, i < S.cls.length → Ck S i
  tot : ab9 S.wat = 2 * S.cls.length
  wat : ∀ i, i < S.cls.length → ∀ k, k < 2 → Wk2 S i k
  tra : ∀ i, i < S.tra.length → Trk S i
  hea : ∀ i, i < S.hea.length → Hk S i
  fre : ∀ v, v < S.val.length → Fk S v
  rea : ∀ i, i < S.tra.length → RkP S i
theorem alK (h1 : ∀ i, i < S.tra.length → Trk S i) (h2 : ∀ v, v < S.val.length → Fk S v) : Tri S.val := by
  intro y hy
  obtain ⟨v, hv, rfl⟩ := ah1 hy
  by_cases h : ∀ i, i < S.tra.length → tr (tl S i) ≠ v
  · exact .inr (.inl (h2 v hv h).1)
  · have ⟨i, h⟩ := Classical.not_forall.1 h
    have ⟨hi, h⟩ := Classical.not_imp.1 h
    have h := Classical.not_not.1 h
    have := (h1 i hi).sgn
    rw [h] at this
    rw [this]
    rcases al9 (tl S i) with g | g <;> rw [g] <;> simp
def dC (W : List (List Int)) : Nat → List (Nat × Int)
  | 0 => []
  | m + 1 => dC W m ++ (W.getD m []).map fun e => (m, e)
theorem al2 {W : List (List Int)} {m w : Nat} {e : Int} : (w, e) ∈ dC W m ↔ w < m ∧ e ∈ W.getD w [] := by
  induction m with
  | zero => simp [dC]
  | succ m ih =>
    simp only [dC, List.mem_append, ih, List.mem_map, Prod.mk.injEq]
    constructor
    · rintro (⟨h1, h2⟩ | ⟨e', h1, rfl, rfl⟩)
      · exact ⟨by omega, h2⟩
      · exact ⟨by omega, h1⟩
    · rintro ⟨h1, h2⟩
      by_cases g : w = m
      · subst g; exact .inr ⟨e, h2, rfl, rfl⟩
      · exact .inl ⟨by omega, h2⟩
theorem ahg {W : List (List Int)} {m : Nat} (hm : m < W.length) : ab9 (W.take (m + 1)) = ab9 (W.take m) + (W.getD m []).length := by
  unfold ab9
  rw [List.take_succ_eq_append_getElem hm, List.map_append, List.sum_append, List.getD_eq_getElem?_getD, List.getElem?_eq_getElem hm]
  simp
theorem acT {W : List (List Int)} {m : Nat} (hm : m ≤ W.length) : (dC W m).length = ab9 (W.take m) := by
  induction m with
  | zero => simp [dC, ab9]
  | succ m ih => rw [ahg (by omega), ← ih (by omega)]; simp [dC]
theorem akN {α : Type} [DecidableEq α] (d : α) {l P : List α} (hn : l.Nodup) (hs : ∀ y ∈ l, y ∈ P) : l.length ≤ P.length := by
  refine acz (fun j => P.getD j d) P.length l (fun y hy => ?_) (fun j _ => List.nodup_iff_count.1 hn _)
  obtain ⟨j, hj, e⟩ := List.getElem_of_mem (hs y hy)
  exact ⟨j, hj, by rw [List.getD_eq_getElem?_getD, List.getElem?_eq_getElem hj]; exact e.symm⟩
theorem ae5 (hw : S.wat.length = 2 * S.val.length) (hc : ∀ i, i < S.cls.length → Ck S i) (ht : ab9 S.wat = 2 * S.cls.length) (h2 : ∀ i, i < S.cls.length → ∀ k, k < 2 → Wk2 S i k) :
    ∀ w, w < S.wat.length → ∀ e ∈ S.wt w, 0 ≤ e ∧ e < (S.cls.length : Int) := by
  intro w hwl e he
  refine Classical.byContradiction fun hno => ?_
  let f : Nat → Nat × Int := fun j => (wch (lit S (j / 2) (j % 2)), ((j / 2 : Nat) : Int))
  let l := (List.range (2 * S.cls.length)).map f
  have fin : ∀ j, j < 2 * S.cls.length → f j ∈ dC S.wat S.wat.length := by
    intro j hj
    have hi : j / 2 < S.cls.length := by omega
    have h := h2 _ hi (j % 2) (by omega)
    have F := (hc _ hi).2
    have hlt := akg (F.at (i := j % 2) (by have := F.2.2; omega))
    refine al2.2 ⟨by rw [hw]; exact hlt, ?_⟩
    refine List.one_le_count_iff.1 ?_
    show 1 ≤ (S.wt _).count _
    unfold Wk2 at h
    rw [h]; exact Nat.le_refl _
  have inj : ∀ i j, i < 2 * S.cls.length → j < 2 * S.cls.length → f i = f j → i = j := by
    intro i j hi hj e
    simp only [f, Prod.mk.injEq] at e
    obtain ⟨e1, e2⟩ := e
    have e2 : i / 2 = j / 2 := by omega
    rw [e2] at e1
    have hq : j / 2 < S.cls.length := by omega
    have F := (hc _ hq).2
    have t1 := F.at (i := i % 2) (by have := F.2.2; omega)
    have t2 := F.at (i := j % 2) (by have := F.2.2; omega)
    have e3 := aln t1.1 t2.1 e1
    have : i % 2 = j % 2 := ajE F.2.1 (i := i % 2) (j := j % 2) (by have := F.2.2; omega) (by have := F.2.2; omega) (by
      show tr (lit S (j / 2) (i % 2)) = tr (lit S (j / 2) (j % 2)); rw [e3])
    omega
  have nd : ((w, e) :: l).Nodup := by
    rw [List.nodup_cons]
    refine ⟨fun hm => ?_, ?_⟩
    · obtain ⟨j, hj, e1⟩ := List.mem_map.1 hm
      have hj := List.mem_range.1 hj
      simp only [f, Prod.mk.injEq] at e1
      omega
    · rw [List.Nodup, List.pairwise_map, List.pairwise_iff_getElem]
      intro i j hi hj hij e1
      have hi' : i < 2 * S.cls.length := by simpa using hi
      have hj' : j < 2 * S.cls.length := by simpa using hj
      simp only [List.getElem_range] at e1
      have := inj i j hi' hj' e1
      omega
  have := akN (0, 0) (P := dC S.wat S.wat.length) nd (fun y hy => by
    rcases List.mem_cons.1 hy with rfl | hy
    · exact al2.2 ⟨hwl, he⟩
    · obtain ⟨j, hj, e1⟩ := List.mem_map.1 hy
      rw [← e1]; exact fin j (List.mem_range.1 hj))
  rw [acT (Nat.le_refl _), List.take_length, ht] at this
  simp [l] at this
  omega
end Go.Sh.Cl

namespace Go.Sh.Cl
open Go Go.Lift Go.Cla
variable {h h' h0 : Heap} {p : Addr} {x : S8} {S : SS} {nx : Int} {n : Nat}
abbrev Y3 := Sl × Bool × Int
structure SRd (h : Heap) (x : S8) (S : SS) (nx : Int) : Prop where
  clen : x.1.len = S.cls.length
  cls : ∃ ys : Nat → Sl, ∀ i, i < S.cls.length → ∃ a, x.1.a = some a ∧ cells? h (a.add (i * 3)) 3 0 = some (aZ (ys i, (S.cl i).learned, (S.cl i).use)) ∧ RJ h (ys i) (S.cl i).lits
  wat : ∃ ss, RR h x.2.1 ss S.wat
  val : RJ h x.2.2.1 S.val
  lev : RJ h x.2.2.2.1 S.lev
  rea : RJ h x.2.2.2.2.1 S.rea
  tra : RJ h x.2.2.2.2.2.1 S.tra
  hea : RJ h x.2.2.2.2.2.2.1 S.hea
  nx : x.2.2.2.2.2.2.2 = nx
theorem aO (e : Ext h h') {a : Addr} {n i : Nat} {l : List Value} (hc : cells? h a n i = some l) : cells? h' a n i = some l := by
  induction n generalizing i l with
  | zero => exact hc
  | succ n ih =>
    simp only [cells?] at hc ⊢
    split at hc <;> simp at hc
    rename_i v r h2 h3
    subst hc
    rw [ao e h2 (by simp), ih h3]
theorem SRd.ext (q : SRd h x S nx) (e : Ext h h') : SRd h' x S nx := by
  obtain ⟨ys, hy⟩ := q.cls
  obtain ⟨ss, hs⟩ := q.wat
  exact ⟨q.clen, ⟨ys, fun i hi => by obtain ⟨a, h1, h2, h3⟩ := hy i hi; exact ⟨a, h1, aO e h2, R.ext h3 e⟩⟩, ⟨ss, hs.ext e⟩, R.ext q.val e, R.ext q.lev e, R.ext q.rea e, R.ext q.tra e, R.ext q.hea e, q.nx⟩
theorem SRd.wlen (q : SRd h x S nx) : x.2.1.len = S.wat.length := by obtain ⟨ss, hs⟩ := q.wat; rw [hs.r.len, hs.len]
theorem SRd.clS (q : SRd h x S nx) {i : Int} {j : Nat} {k : Y3 → Prop} (hi : i = (j : Int)) (hj : j < S.cls.length) (K : ∀ s, RJ h s (S.cl j).lits → k (s, (S.cl j).learned, (S.cl j).use)) : idxS x.1 i 3 fun a => cg aZ 3 a h k := by
  subst hi
  obtain ⟨ys, hy⟩ := q.cls
  obtain ⟨a, h1, h2, h3⟩ := hy j hj
  exact ⟨a, h1, ⟨by omega, by have := q.clen; omega⟩, _, by simpa using h2, K _ h3⟩
theorem SRd.clE {hh : Heap} (q : SRd h x S nx) (e : Ext h hh) {i : Int} {j : Nat} {k : Sl → Prop} (hi : i = (j : Int)) (hj : j < S.cls.length) (K : ∀ s, RJ h s (S.cl j).lits → k s) : idxS x.1 i 3 fun a => Lift.load Sl.toV (a.add 0) hh k := by
  subst hi
  obtain ⟨ys, hy⟩ := q.cls
  obtain ⟨a, h1, h2, h3⟩ := hy j hj
  refine ⟨a, h1, ⟨by omega, by have := q.clen; omega⟩, ys j, ?_, K _ h3⟩
  have := cells?_get _ _ _ h2 0 (by simp [aZ])
  exact ao e (by simpa [aZ] using this) (by simp)
theorem SRd.clSE {hh : Heap} (q : SRd h x S nx) (e : Ext h hh) {i : Int} {j : Nat} {k : Y3 → Prop} (hi : i = (j : Int)) (hj : j < S.cls.length) (K : ∀ s, RJ h s (S.cl j).lits → k (s, (S.cl j).learned, (S.cl j).use)) : idxS x.1 i 3 fun a => cg aZ 3 a hh k := by
  subst hi
  obtain ⟨ys, hy⟩ := q.cls
  obtain ⟨a, h1, h2, h3⟩ := hy j hj
  exact ⟨a, h1, ⟨by omega, by have := q.clen; omega⟩, _, by simpa using aO e h2, K _ h3⟩
theorem SRd.wtE {hh : Heap} (q : SRd h x S nx) (e : Ext h hh) {i : Int} {j : Nat} {k : Sl → Prop} (hi : i = (j : Int)) (hj : j < S.wat.length) (K : ∀ s, RJ h s (S.wt j) → k s) : idxS x.2.1 i 1 fun a => Lift.load Sl.toV a hh k := by
  subst hi
  obtain ⟨ss, hs⟩ := q.wat
  have hj' : j < ss.length := by rw [hs.len]; exact hj
  obtain ⟨a, ha, hc⟩ := hs.r.get hj'
  have : S.wt j = S.wat[j] := by unfold SS.wt; rw [List.getD_eq_getElem?_getD, List.getElem?_eq_getElem hj]; rfl
  refine ⟨a, ha, ⟨by omega, by have := hs.r.len; omega⟩, _, ?_, K _ (by rw [this]; exact hs.i j hj' hj)⟩
  simpa using ao e hc (by simp)
structure PR (h : Heap) (p : Addr) (x : S8) (S : SS) (nx : Int) : Prop where
  rd : SRd h x S nx
  all : cells? h p 8 0 = some (ag x)
section
theorem PR.ext (q : PR h p x S nx) (e : Ext h h') : PR h' p x S nx := ⟨q.rd.ext e, aO e q.all⟩
theorem PR.c (q : PR h p x S nx) (k : Nat) (hk : k < 8) : cell? h (p.add k) = some ((ag x)[k]'hk) := by
  have := cells?_get _ _ _ q.all k hk
  simpa using this
theorem PR.l0 (q : PR h p x S nx) {k : Sl → Prop} (K : k x.1) : Lift.load Sl.toV (p.add 0) h k := ⟨_, q.c 0 (by decide), K⟩
theorem PR.l1 (q : PR h p x S nx) {k : Sl → Prop} (K : k x.2.1) : Lift.load Sl.toV (p.add 1) h k := ⟨_, q.c 1 (by decide), K⟩
theorem PR.l2 (q : PR h p x S nx) {k : Sl → Prop} (K : k x.2.2.1) : Lift.load Sl.toV (p.add 2) h k := ⟨_, q.c 2 (by decide), K⟩
theorem PR.l3 (q : PR h p x S nx) {k : Sl → Prop} (K : k x.2.2.2.1) : Lift.load Sl.toV (p.add 3) h k := ⟨_, q.c 3 (by decide), K⟩
theorem PR.l4 (q : PR h p x S nx) {k : Sl → Prop} (K : k x.2.2.2.2.1) : Lift.load Sl.toV (p.add 4) h k := ⟨_, q.c 4 (by decide), K⟩
theorem PR.l5 (q : PR h p x S nx) {k : Sl → Prop} (K : k x.2.2.2.2.2.1) : Lift.load Sl.toV (p.add 5) h k := ⟨_, q.c 5 (by decide), K⟩
theorem PR.l6 (q : PR h p x S nx) {k : Sl → Prop} (K : k x.2.2.2.2.2.2.1) : Lift.load Sl.toV (p.add 6) h k := ⟨_, q.c 6 (by decide), K⟩
theorem PR.l7 (q : PR h p x S nx) {k : Int → Prop} (K : k nx) : Lift.load (Value.int .i64) (p.add 7) h k := ⟨_, q.c 7 (by decide), by rw [q.rd.nx]; exact K⟩
theorem nilp {k : Addr → Prop} (K : k p) : ah (some p) k := ⟨p, rfl, K⟩
theorem PR.vlen (q : PR h p x S nx) : x.2.2.1.len = S.val.length := q.rd.val.len
theorem PR.there (q : PR h p x S nx) {l : Int} {Q : Bool → Heap → Prop} (hn : S.val.length ≤ 1048576) (K : Q (decide (There S.val.length l)) h) : eS (some p) l h Q :=
  aaX (q.c 2 (by decide)) q.vlen hn K
theorem PR.value (q : PR h p x S nx) {l : Int} {Q : Int → Heap → Prop} (hn : S.val.length ≤ 1048576) (ht : Tri S.val) (K : ∀ h', Ext h h' → Q (vl S.val l) h') : ah (some p) fun a => cg ag 8 a h fun v => gH (v.1, v.2.1, v.2.2.1, v.2.2.2.1, v.2.2.2.2.1, v.2.2.2.2.2.1, v.2.2.2.2.2.2.1, v.2.2.2.2.2.2.2) l h Q :=
  ⟨p, rfl, x, q.all, agW q.rd.val hn ht K⟩
end
theorem agt {s : Sl} {L : List Int} {Q : Bool → Heap → Prop} (q : PR h p x S nx) (hn : S.val.length ≤ 1048576) (hr : RJ h s L) (hl : L.length ≤ 1048576) (K : ∀ b h', (b = true ↔ FitsL S.val.length L) → Ext h h' → Q b h') : jB (some p) s h Q := by
  refine MPg.new (toV := Value.bool) fun h1 m1 e1 _ => ?_
  have hsl := hr.len
  refine loop.inv (fun (s0 : Int) hh => Ext h hh ∧ ∃ i : Nat, s0 = (i : Int) ∧ i ≤ L.length ∧ (∀ l ∈ L.take i, There S.val.length l) ∧ ((L.take i).map tr).Nodup ∧ ∃ g, MPg Value.bool hh h.size g ∧ (∀ k : Int, ((∃ l ∈ L.take i, (tr l : Int) = k) → g k = some true) ∧ ((¬ ∃ l ∈ L.take i, (tr l : Int) = k) → g k = none))) (fun s0 _ => L.length - s0.toNat)
    ⟨e1, 0, rfl, Nat.zero_le _, by simp, by simp, _, m1, fun k => ⟨by simp, by simp⟩⟩ ?_
  rintro s0 hh ⟨ee, i, rfl, hi, hth, hnd, g, mg, hg⟩
  dsimp only
  rw [hsl]
  refine ⟨fun hlt => ?_, fun hge => ?_⟩
  · simp only [decide_eq_true_eq] at hlt
    have hi' : i < L.length := by omega
    have hmem := List.getElem_mem hi'
    refine RJ.ld (R.ext hr ee) (j := i) rfl hi' ?_
    rw [jV hi']
    have htk := List.take_succ_eq_append_getElem hi'
    generalize hl : L[i] = l at *
    refine seq.cut (fun (b : Bool) h2 => h2 = hh ∧ (b = false ↔ There S.val.length l ∧ tr l ∉ (L.take i).map tr)) ?_ ?_
    · refine (q.ext ee).there hn ⟨fun hno => ⟨rfl, ?_⟩, fun hy => ?_⟩
      · have : ¬ There S.val.length l := by simpa using hno
        simp [this]
      · have hl' : There S.val.length l := by simpa using hy
        refine eK hl' hn (mg.look ⟨rfl, ?_⟩)
        have iff : tr l ∉ (L.take i).map tr ↔ ¬ ∃ m ∈ L.take i, (tr m : Int) = (tr l : Int) := by
          rw [List.mem_map]
          constructor
          · rintro h1 ⟨m, hm, e⟩; exact h1 ⟨m, hm, by omega⟩
          · rintro h1 ⟨m, hm, e⟩; exact h1 ⟨m, hm, by omega⟩
        rw [iff]
        by_cases hex : ∃ m ∈ L.take i, (tr m : Int) = (tr l : Int)
        · rw [(hg _).1 hex]; simp [hex]
        · rw [(hg _).2 hex]; simp [hex, hl']
    · rintro b h2 ⟨rfl, hb⟩
      refine ⟨fun hbt => ?_, fun hbf => ?_⟩
      · refine K false h2 ⟨fun h => by simp at h, fun hf => ?_⟩ ee
        exfalso
        have : b = false := hb.2 ⟨hf.1 l hmem, fun hm => ?_⟩
        · rw [this] at hbt; cases hbt
        · have h1 : ((L.take (i + 1)).map tr).Nodup := (List.Sublist.map tr (List.take_sublist _ _)).nodup hf.2.1
          rw [htk, List.map_append, List.nodup_append] at h1
          exact h1.2.2 _ hm _ (by simp) rfl
      · obtain ⟨hl1, hl2⟩ := hb.1 hbf
        refine eK hl1 hn (mg.set fun h3 m3 k3 _ => ?_)
        rw [w64 (by omega) (by omega)]
        refine ⟨⟨ee.fresh (Nat.le_refl _) k3, i + 1, by omega, by omega, ?_, ?_, _, m3, fun k => ?_⟩, by omega⟩
        · rw [htk]
          intro m hm
          rcases List.mem_append.1 hm with hm | hm
          · exact hth m hm
          · simp only [List.mem_singleton] at hm; rw [hm]; exact hl1
        · rw [htk, List.map_append, List.nodup_append]
          refine ⟨hnd, by simp, fun a ha b hb e => ?_⟩
          simp only [List.map_cons, List.map_nil, List.mem_singleton] at hb
          subst hb; subst e
          exact hl2 ha
        · rw [htk]
          by_cases e : k = (tr l : Int)
          · subst e
            refine ⟨fun _ => by simp, fun hno => absurd ⟨l, by simp, rfl⟩ hno⟩
          · have iff : (∃ m ∈ L.take i ++ [l], (tr m : Int) = k) ↔ ∃ m ∈ L.take i, (tr m : Int) = k := by
              constructor
              · rintro ⟨m, hm, h1⟩
                rcases List.mem_append.1 hm with hm | hm
                · exact ⟨m, hm, h1⟩
                · simp only [List.mem_singleton] at hm; subst hm; exact absurd h1.symm e
              · rintro ⟨m, hm, h1⟩; exact ⟨m, List.mem_append_left _ hm, h1⟩
            rw [iff, if_neg e]
            exact hg k
  · simp only [decide_eq_false_iff_not] at hge
    have : i = L.length := by omega
    subst this
    rw [List.take_length] at hth hnd
    refine K _ hh ?_ ee
    rw [decide_eq_true_eq]
    unfold FitsL
    constructor
    · intro h; exact ⟨hth, hnd, by omega⟩
    · intro h; have := h.2.2; omega
theorem z6 {Q : Bool → Heap → Prop} (q : PR h p x S nx) (hn : S.val.length ≤ 1048576) (hc : S.cls.length ≤ 1048576) (hl : ∀ i, i < S.cls.length → (S.cl i).lits.length ≤ 1048576)
    (K : ∀ b h', (b = false ↔ ∀ i, i < S.cls.length → Ck S i) → Ext h h' → Q b h') : aA x.1 p h Q := by
  have hlen := q.rd.clen
  unfold aA aJ
  refine loop.inv (fun (s0 : Int) hh => Ext h hh ∧ ∃ i : Nat, s0 = (i : Int) ∧ i ≤ S.cls.length ∧ ∀ j, j < i → Ck S j) (fun s0 _ => S.cls.length - s0.toNat) ⟨Keep.refl _ _, 0, rfl, by omega, fun j hj => by omega⟩ ?_
  rintro s0 hh ⟨ee, i, rfl, hi, hall⟩
  rw [hlen]
  refine ⟨fun hlt => ?_, fun hge => ?_⟩
  · simp only [decide_eq_true_eq] at hlt
    have hi' : i < S.cls.length := by omega
    refine (q.ext ee).rd.clS (j := i) rfl hi' fun s hs => ak fun h2 e2 => ?_
    have e02 := ee.trans e2
    refine seq.cut (fun b h3 => (b = false ↔ Ck S i) ∧ Ext h h3) ?_ ?_
    · refine ⟨fun hneg => ⟨⟨nofun, fun hk => ?_⟩, e02⟩, fun hpos => ?_⟩
      · have := hk.1
        simp only [decide_eq_true_eq] at hneg
        omega
      · simp only [decide_eq_false_iff_not] at hpos
        refine agt (q.ext e02) hn (R.ext hs e2) (hl i hi') fun b h3 hb e3 => ⟨?_, e02.trans e3⟩
        unfold Ck
        constructor
        · intro h; exact ⟨by omega, hb.1 (by simpa using h)⟩
        · intro h; rw [hb.2 h.2]; rfl
    · rintro b h3 ⟨hb, e3⟩
      refine ⟨fun hbt => ?_, fun hbf => ?_⟩
      · refine K _ h3 ⟨fun hf => ?_, fun hf => ?_⟩ e3
        · simp at hf
        · have := hb.2 (hf i hi'); rw [this] at hbt; cases hbt
      · rw [w64 (by omega) (by omega)]
        refine ⟨⟨e3, i + 1, by omega, by omega, fun j hj => ?_⟩, by omega⟩
        by_cases g : j = i
        · subst g; exact hb.1 hbf
        · exact hall j (by omega)
  · simp only [decide_eq_false_iff_not] at hge
    exact K _ hh ⟨fun _ j hj => hall j (by omega), fun _ => rfl⟩ ee
theorem zM {s : Sl} {V : List Int} {Q : Bool → Heap → Prop} (hr : RJ h s V) (hl : V.length ≤ 1048576) (K : ∀ b, (b = false ↔ Tri V) → Q b h) : aK s h Q := by
  have hlen := hr.len
  unfold aK bF
  refine loop.inv (fun (s0 : Int) hh => hh = h ∧ ∃ i : Nat, s0 = (i : Int) ∧ i ≤ V.length ∧ ∀ j, j < i → atI V j = -1 ∨ atI V j = 0 ∨ atI V j = 1) (fun s0 _ => V.length - s0.toNat) ⟨rfl, 0, rfl, by omega, fun j hj => by omega⟩ ?_
  rintro s0 hh ⟨rfl, i, rfl, hi, hall⟩
  rw [hlen]
  refine ⟨fun hlt => ?_, fun hge => ?_⟩
  · simp only [decide_eq_true_eq] at hlt
    have hi' : i < V.length := by omega
    refine RJ.ld hr (j := i) rfl hi' ?_
    show seq _ _
    refine seq.cut (fun b h3 => h3 = hh ∧ (b = false ↔ atI V i = -1 ∨ atI V i = 0 ∨ atI V i = 1)) ?_ ?_
    · show iteB (decide (atI V i < -1)) _ _
      refine ⟨fun h1 => ⟨rfl, ?_⟩, fun h1 => ⟨rfl, ?_⟩⟩
      · simp only [decide_eq_true_eq] at h1
        constructor
        · intro h; cases h
        · intro h; omega
      · simp only [decide_eq_false_iff_not] at h1
        show decide (atI V i > 1) = false ↔ _
        rw [decide_eq_false_iff_not]; omega
    · rintro b h3 ⟨rfl, hb⟩
      refine ⟨fun hbt => K _ ⟨fun hf => by simp at hf, fun hf => ?_⟩, fun hbf => ?_⟩
      · have := hb.2 (hf _ (afL hi')); rw [this] at hbt; cases hbt
      · rw [w64 (by omega) (by omega)]
        refine ⟨⟨rfl, i + 1, by omega, by omega, fun j hj => ?_⟩, by omega⟩
        by_cases g : j = i
        · subst g; exact hb.1 hbf
        · exact hall j (by omega)
  · simp only [decide_eq_false_iff_not] at hge
    refine K _ ⟨fun _ y hy => ?_, fun _ => rfl⟩
    obtain ⟨j, hj, rfl⟩ := ah1 hy
    exact hall j (by omega)
end Go.Sh.Cl

namespace Go.Sh.Cl
open Go Go.Lift Go.Cla
variable {h h' h0 : Heap} {p : Addr} {x : S8} {S : SS} {nx : Int} {n : Nat}
def MPp (h : Heap) (mp : Nat) (g : K2 → Int) : Prop := ∃ f : List (K2 × Int), aiX .i64 h (some mp) (gS (Value.int .i64) f) ∧ ∀ k, (f.lookup k).getD 0 = g k
section
variable {mp : Nat} {g : K2 → Int}
theorem MPp.lt (p : MPp h mp g) : mp < h.size := by
  obtain ⟨f, ⟨es, c, h1, h2⟩, h3⟩ := p
  exact (Array.getElem?_eq_some_iff.1 h1).1
theorem MPp.ext (p : MPp h mp g) (k : Ext h h') : MPp h' mp g := by
  obtain ⟨f, ⟨es, c, h1, h2⟩, h3⟩ := p
  exact ⟨f, ⟨es, c, by rw [k.same mp (Array.getElem?_eq_some_iff.1 h1).1 (by simp)]; exact h1, h2⟩, h3⟩
theorem MPp.look (p : MPp h mp g) {key : K2} {k : Int × Bool → Prop} (K : ∀ b, k (g key, b)) : abb .i64 (Value.int .i64) 0 (some mp) key h k := by
  obtain ⟨f, h1, h2⟩ := p
  refine ⟨f, _, h1, rfl, ?_⟩
  have h2 := h2 key
  cases hg : f.lookup key with
  | none => rw [hg] at h2; have := K false; rw [← h2] at this; exact this
  | some v => rw [hg] at h2; have := K true; rw [← h2] at this; exact this
theorem MPp.new {k : Option Nat → Heap → Prop} (K : ∀ h', MPp h' h.size (fun _ => 0) → Ext h h' → h'.size = h.size + 1 → k (some h.size) h') : newM h k :=
  K _ ⟨[], ⟨#[], 0, by simp, ⟨rfl, by simp, fun e he => by simp at he, by simp [gS]⟩⟩, fun _ => rfl⟩ (Ext.push _ _) (by simp)
theorem MPp.inc (p : MPp h mp g) {key : K2} {k : Heap → Prop} (h0 : 0 ≤ g key) (h1 : g key ≤ 1000000000) (K : ∀ h', MPp h' mp (fun j => if j = key then g key + 1 else g j) → Keep (some mp) h h' → k h') :
    abb .i64 (Value.int .i64) 0 (some mp) key h fun v5 => aiO .i64 (Value.int .i64) 0 (some mp) key h fun en h4 => (abb .i64 (Value.int .i64) 0 (some mp) key h4 fun r_ => r_.1 = v5.1) ∧ ahV .i64 (Value.int .i64) (some mp) en.2 (IntKind.wrap .i64 (v5.1 + 1)) h4 k := by
  have hlt := p.lt
  refine p.look fun b => ?_
  obtain ⟨f, h2, h3⟩ := p
  refine ⟨mp, f, rfl, h2, fun es c st he hs => ⟨⟨sW f key 0, _, ⟨es, c, by simp [hlt], he⟩, rfl, ?_⟩, mp, es, c, sW f key 0, key, rfl, by simp [hlt], he, hs, fun es' he' => ?_⟩⟩
  · have e : (sW f key 0).lookup key = some ((f.lookup key).getD 0) := by rw [uY]; simp
    simp only [e]
    exact h3 key
  · rw [w64 (by simp only; omega) (by simp only; omega)] at he'
    refine K _ ⟨tT (sW f key 0) key (g key + 1), ⟨es', c, by simp [hlt], he'⟩, fun j => ?_⟩ ⟨by simp, fun b hb hne => ?_⟩
    · rw [adV, uY]
      by_cases e : j = key
      · subst e; simp
      · have : (j == key) = false := by simpa using e
        rw [this]; simp only [Bool.false_eq_true, if_false]
        rw [if_neg e]; exact h3 j
    · have hne' : mp ≠ b := fun e => hne (by rw [e])
      rw [Array.getElem?_setIfInBounds_ne hne', Array.getElem?_setIfInBounds_ne hne']
end
def tk (y : Nat × Int) : K2 := ((y.1 : Int), y.2)
theorem ajV {W : List (List Int)} {m w : Nat} {e : Int} : ((dC W m).map tk).count ((w : Int), e) = if w < m then (W.getD w []).count e else 0 := by
  induction m with
  | zero => simp [dC]
  | succ m ih =>
    have one : ∀ l : List Int, ((l.map fun e => (m, e)).map tk).count ((w : Int), e) = if w = m then l.count e else 0 := by
      intro l
      induction l with
      | nil => simp
      | cons y l ih =>
        simp only [List.map_cons, List.count_cons, ih, tk]
        by_cases g : w = m
        · subst g
          simp only [if_true]
          by_cases g2 : y = e
          · subst g2; simp
          · have : (((w : Int), y) == ((w : Int), e)) = false := by simpa using g2
            have h2 : (y == e) = false := by simpa using g2
            rw [this, h2]
        · have : (((m : Int), y) == ((w : Int), e)) = false := by simp; omega
          rw [this]; simp [g]
    simp only [dC, List.map_append, List.count_append, ih]
    rw [one]
    by_cases g : w = m
    · subst g; simp
    · by_cases g2 : w < m
      · rw [if_pos g2, if_neg g, if_pos (by omega)]; omega
      · rw [if_neg g2, if_neg g, if_neg (by omega)]
theorem alx {W : List (List Int)} {m : Nat} : (dC W (m + 1)).map tk = (dC W m).map tk ++ (W.getD m []).map fun e => ((m : Int), e) := by
  simp [dC, tk, Function.comp_def]
theorem ag5 {P : List K2} {y k : K2} : (((P ++ [y]).count k : Nat) : Int) = if k = y then ((P.count y : Nat) : Int) + 1 else ((P.count k : Nat) : Int) := by
  rw [List.count_append]
  by_cases e : k = y
  · subst e; simp
  · have : (y == k) = false := by simpa using fun h => e h.symm
    simp [List.count_cons, this, e]
theorem adc {Q : Bool → Heap → Prop} (q : PR h p x S nx) (hn : S.val.length ≤ 1000) (hw : S.wat.length = 2 * S.val.length) (hc : ∀ i, i < S.cls.length → Ck S i) (hcl : S.cls.length ≤ 1000) (hwl : ∀ w, (S.wt w).length ≤ 1000)
    (K : ∀ b h', (b = true ↔ ab9 S.wat = 2 * S.cls.length ∧ ∀ i, i < S.cls.length → ∀ k, k < 2 → Wk2 S i k) → Ext h h' → Q b h') : ia (some p) h Q := by
  have bad : ∀ {w : Nat} {e : Int}, w < S.wat.length → e ∈ S.wt w → ¬ (0 ≤ e ∧ e < (S.cls.length : Int)) → ∀ h', Ext h h' → Q false h' := fun hwl he hno h' e' =>
    K false h' ⟨nofun, fun ⟨h1, h2⟩ => absurd (ae5 hw hc h1 h2 _ hwl _ he) hno⟩ e'
  have hcn := q.rd.clen
  refine MPp.new fun h1 m1 e1 _ => nilp ((q.ext e1).l1 ?_)
  have hwn := q.rd.wlen
  refine loop.inv (fun (s0 : Int × Int) hh => Ext h hh ∧ ∃ w : Nat, s0.2 = (w : Int) ∧ w ≤ S.wat.length ∧ s0.1 = ((dC S.wat w).length : Int) ∧ (dC S.wat w).length ≤ 1000 * w ∧ MPp hh h.size (fun k => ((((dC S.wat w).map tk).count k : Nat) : Int))) (fun s0 _ => S.wat.length - s0.2.toNat)
    ⟨e1, 0, rfl, by omega, rfl, by simp [dC], by simpa [dC] using m1⟩ ?_
  rintro ⟨t0, _⟩ hh ⟨ee, w, rfl, hwle, rfl, hpl, mm⟩
  dsimp only at hpl mm ⊢
  rw [hwn]
  refine ⟨fun hlt => ?_, fun hge => ?_⟩
  · simp only [decide_eq_true_eq] at hlt
    have hw' : w < S.wat.length := by omega
    refine q.rd.wtE ee (j := w) rfl hw' fun s hs => ?_
    have hsl := hs.len
    have hlw := hwl w
    generalize hL : S.wt w = L at *
    have hL' : S.wat.getD w [] = L := hL
    refine loop.inv (fun (s2 : Int × Int) hh2 => Ext h hh2 ∧ ∃ i : Nat, s2.2 = (i : Int) ∧ i ≤ L.length ∧ s2.1 = (((dC S.wat w).length + i : Nat) : Int) ∧ MPp hh2 h.size (fun k => ((((dC S.wat w).map tk ++ (L.take i).map fun e => ((w : Int), e)).count k : Nat) : Int))) (fun s2 _ => L.length - s2.2.toNat)
      ⟨ee, 0, rfl, by omega, by simp, by simpa using mm⟩ ?_
    rintro ⟨t1, _⟩ h2 ⟨e2, i, rfl, hi, rfl, m2⟩
    dsimp only at m2 ⊢
    rw [hsl]
    refine ⟨fun hlt2 => ?_, fun hge2 => ?_⟩
    · simp only [decide_eq_true_eq] at hlt2
      have hi' : i < L.length := by omega
      have hmem := List.getElem_mem hi'
      refine RJ.ld (R.ext hs e2) (j := i) rfl hi' ?_
      rw [jV hi']
      have htk := List.take_succ_eq_append_getElem hi'
      generalize L[i] = y at *
      refine seq.cut (fun b h3 => h3 = h2 ∧ (b = false ↔ 0 ≤ y ∧ y < (S.cls.length : Int))) ?_ ?_
      · refine ⟨fun hneg => ⟨rfl, ?_⟩, fun hpos => nilp ((q.ext e2).l0 ⟨rfl, ?_⟩)⟩
        · simp only [decide_eq_true_eq] at hneg
          exact ⟨nofun, fun h => by omega⟩
        · simp only [decide_eq_false_iff_not] at hpos
          rw [hcn, decide_eq_false_iff_not]; omega
      · rintro b h3 ⟨rfl, hb⟩
        refine ⟨fun hbt => ?_, fun hbf => ?_⟩
        · refine bad hw' (by rw [hL]; exact hmem) (fun hok => ?_) _ e2
          have := hb.2 hok; rw [this] at hbt; cases hbt
        · have hcle : (((dC S.wat w).map tk ++ (L.take i).map fun e => ((w : Int), e)).count ((w : Int), y)) ≤ 1000 * w + 1000 := by
            refine Nat.le_trans (List.count_le_length) ?_
            simp only [List.length_append, List.length_map, List.length_take]
            omega
          refine m2.inc (by omega) (by have := hn; omega) fun h4 m4 k4 => ?_
          rintro n0 rfl
          rw [w64 (by omega) (by omega), w64 (by omega) (by omega)]
          refine ⟨⟨e2.fresh (Nat.le_refl _) k4, i + 1, by simp, by omega, by simp; omega, ?_⟩, by (try dsimp only); omega⟩
          rw [htk, List.map_append, ← List.append_assoc]
          have : (fun k : K2 => ((((dC S.wat w).map tk ++ (L.take i).map (fun e => ((w : Int), e)) ++ [y].map (fun e => ((w : Int), e))).count k : Nat) : Int)) = fun j => if j = ((w : Int), y) then ((((dC S.wat w).map tk ++ (L.take i).map fun e => ((w : Int), e)).count ((w : Int), y) : Nat) : Int) + 1 else ((((dC S.wat w).map tk ++ (L.take i).map fun e => ((w : Int), e)).count j : Nat) : Int) := by
            funext j
            exact ag5
          rw [this]
          exact m4
    · simp only [decide_eq_false_iff_not] at hge2
      have : i = L.length := by omega
      subst this
      rw [List.take_length] at m2
      rw [w64 (by omega) (by omega)]
      have hpl2 : (dC S.wat (w + 1)).length = (dC S.wat w).length + L.length := by simp [dC, hL, SS.wt]; rw [← List.getD_eq_getElem?_getD, hL']
      refine ⟨⟨e2, w + 1, by simp, by omega, by rw [hpl2], by rw [hpl2]; omega, ?_⟩, by (try dsimp only); omega⟩
      have : (fun k : K2 => ((((dC S.wat (w + 1)).map tk).count k : Nat) : Int)) = fun k => ((((dC S.wat w).map tk ++ L.map fun e => ((w : Int), e)).count k : Nat) : Int) := by
        funext k
        rw [alx, hL']
      rw [this]; exact m2
  · simp only [decide_eq_false_iff_not] at hge
    have hwe : w = S.wat.length := by omega
    have hgc : ∀ l : Int, There S.val.length l → ∀ i : Nat, (((((dC S.wat w).map tk).count ((wch l : Int), (i : Int)) : Nat) : Int) = 1 ↔ (S.wt (wch l)).count (i : Int) = 1) := by
      intro l hl i
      rw [ajV, if_pos (by rw [hwe, hw]; exact akg hl)]
      show (((S.wt (wch l)).count (i : Int) : Nat) : Int) = 1 ↔ _
      omega
    have htot : (dC S.wat w).length = ab9 S.wat := by rw [hwe, acT (Nat.le_refl _), List.take_length]
    refine nilp ((q.ext ee).l0 ?_)
    refine loop.inv (fun (s3 : Int) h3 => Ext hh h3 ∧ ∃ i : Nat, s3 = (i : Int) ∧ i ≤ S.cls.length ∧ ∀ j, j < i → ∀ k, k < 2 → Wk2 S j k) (fun s3 _ => S.cls.length - s3.toNat) ⟨Keep.refl _ _, 0, rfl, by omega, fun j hj => by omega⟩ ?_
    rintro _ h3 ⟨e3, i, rfl, hi, hall⟩
    rw [hcn]
    have e03 := ee.trans e3
    refine ⟨fun hlt3 => ?_, fun hge3 => ?_⟩
    · simp only [decide_eq_true_eq] at hlt3
      have hi' : i < S.cls.length := by omega
      have F := (hc i hi').2
      have F2 := F.2.2
      refine q.rd.clSE e03 (j := i) rfl hi' fun s hs => ak fun h4 e4 => ?_
      have e04 := e03.trans e4
      refine hs.take (i := 2) (by decide) (by omega) fun v hv _ _ _ => ?_
      have e2 : (Int.toNat 2) = 2 := rfl
      rw [e2] at hv
      have hvl := hv.len
      rw [List.length_take] at hvl
      refine loop.inv (fun (s5 : Int) h5 => Ext hh h5 ∧ ∃ k : Nat, s5 = (k : Int) ∧ k ≤ 2 ∧ ∀ m, m < k → Wk2 S i m) (fun s5 _ => 2 - s5.toNat) ⟨e3.trans e4, 0, rfl, by omega, fun m hm => by omega⟩ ?_
      rintro _ h5 ⟨e5, k, rfl, hk, hall2⟩
      refine ⟨fun hlt5 => ?_, fun hge5 => ?_⟩
      · simp only [decide_eq_true_eq] at hlt5
        have hk' : k < 2 := by omega
        refine RJ.ld (R.ext hv (ee.trans e5)) (j := k) rfl (by simp; omega) ?_
        have hlit : at0 ((S.cl i).lits.take 2) k = lit S i k := by
          rw [jV (by simp; omega), List.getElem_take]
          exact (jV (by omega)).symm
        rw [hlit]
        have th := F.at (i := k) (by omega)
        refine ag8 th (by omega) ((mm.ext e5).look fun b => ⟨fun hne => ?_, fun heq => ?_⟩)
        · refine K false h5 ⟨nofun, fun ⟨_, h2⟩ => ?_⟩ (ee.trans e5)
          have := (hgc _ th i).2 (h2 i hi' k hk')
          simp [this] at hne
        · have : Wk2 S i k := (hgc _ th i).1 (by simpa using heq)
          rw [w64 (by omega) (by omega)]
          refine ⟨⟨e5, k + 1, by omega, by omega, fun m hm => ?_⟩, by omega⟩
          by_cases g : m = k
          · subst g; exact this
          · exact hall2 m (by omega)
      · simp only [decide_eq_false_iff_not] at hge5
        rw [w64 (by omega) (by omega)]
        refine ⟨⟨e5, i + 1, by omega, by omega, fun j hj k hk => ?_⟩, by omega⟩
        by_cases g : j = i
        · subst g; exact hall2 k (by omega)
        · exact hall j (by omega) k hk
    · simp only [decide_eq_false_iff_not] at hge3
      refine nilp ((q.ext e03).l0 ?_)
      rw [hcn, w64 (by omega) (by omega)]
      refine K _ h3 ?_ e03
      rw [beq_iff_eq]
      constructor
      · intro h; exact ⟨by omega, fun j hj => hall j (by omega)⟩
      · intro h; have := h.1; omega
end Go.Sh.Cl

namespace Go.Sh.Cl
open Go Go.Lift Go.Cla
variable {h h' h0 : Heap} {p : Addr} {x : S8} {S : SS} {nx : Int} {n : Nat}
theorem RJ.ldE {hh : Heap} {s : Sl} {xs : List Int} (hr : RJ h s xs) (e : Ext h hh) {i : Int} {j : Nat} {k : Int → Prop} (hij : i = (j : Int)) (hj : j < xs.length) (K : k (atI xs j)) : idxS s i 1 fun a => Lift.load (Value.int .i64) a hh k :=
  RJ.ld (R.ext hr e) hij hj K
theorem RJ.ld2E {hh : Heap} {s : Sl} {xs : List Int} (hr : RJ h s xs) (e : Ext h hh) {i : Int} {j : Nat} {k : Addr → Int → Prop} (hij : i = (j : Int)) (hj : j < xs.length) (K : ∀ a, cell? h a = some (Value.int .i64 (atI xs j)) → k a (atI xs j)) : idxS s i 1 fun a => Lift.load (Value.int .i64) a hh (k a) := by
  subst hij
  obtain ⟨a, ha, hc⟩ := R.get hr hj
  have hl := hr.len
  have e2 : atI xs j = xs[j] := jV hj
  rw [← e2] at hc
  refine ⟨a, ha, ⟨by omega, by omega⟩, _, ?_, K _ ?_⟩
  · simpa using ao e hc (by simp)
  · simpa using hc
def PlG (S : SS) (i : Nat) (g : Int → Option Int) : Prop := (∀ j, j < i → g (tr (tl S j) : Int) = some (j : Int)) ∧ ∀ v : Nat, (∀ j, j < i → tr (tl S j) ≠ v) → g (v : Int) = none
theorem PlG.succ {i : Nat} {g : Int → Option Int} (hp : PlG S i g) (hf : ∀ j, j < i → tr (tl S j) ≠ tr (tl S i)) : PlG S (i + 1) (fun k => if k = (tr (tl S i) : Int) then some (i : Int) else g k) := by
  refine ⟨fun j hj => ?_, fun v hv => ?_⟩
  · by_cases e : j = i
    · subst e; simp
    · have hji : j < i := by omega
      have := hf j hji
      dsimp only
      rw [if_neg (by omega)]
      exact hp.1 j hji
  · dsimp only
    rw [if_neg (by have := hv i (by omega); omega)]
    exact hp.2 v fun j hj => hv j (by omega)
theorem adB {s : Sl} {L : List Int} {v : Int} {Q : Bool → Heap → Prop} (hr : RJ h s L) (hl : L.length ≤ 1048576) (K : Q (decide (v ∈ L)) h) : aC s v h Q := by
  have hlen := hr.len
  unfold aC cB
  refine loop.inv (fun (s0 : Int) hh => hh = h ∧ ∃ i : Nat, s0 = (i : Int) ∧ i ≤ L.length ∧ ∀ j, j < i → atI L j ≠ v) (fun s0 _ => L.length - s0.toNat) ⟨rfl, 0, rfl, by omega, fun j hj => by omega⟩ ?_
  rintro _ hh ⟨rfl, i, rfl, hi, hall⟩
  rw [hlen]
  refine ⟨fun hlt => ?_, fun hge => ?_⟩
  · simp only [decide_eq_true_eq] at hlt
    have hi' : i < L.length := by omega
    refine RJ.ld hr (j := i) rfl hi' ⟨fun he => ?_, fun hne => ?_⟩
    · have he : v = atI L i := by simpa [aa7] using he
      have : decide (v ∈ L) = true := decide_eq_true (by rw [he]; exact afL hi')
      rw [this] at K
      have h2 : decide ((i : Int) ≥ 0) = true := decide_eq_true (by omega)
      show Q (decide ((i : Int) ≥ 0)) hh
      rw [h2]; exact K
    · have hne : v ≠ atI L i := by simpa [aa7] using hne
      rw [w64 (by omega) (by omega)]
      refine ⟨⟨rfl, i + 1, by omega, by omega, fun j hj => ?_⟩, by omega⟩
      by_cases g : j = i
      · subst g; exact fun e => hne e.symm
      · exact hall j (by omega)
  · simp only [decide_eq_false_iff_not] at hge
    have : decide (v ∈ L) = false := decide_eq_false fun hm => by
      obtain ⟨j, hj, e⟩ := ah1 hm
      exact hall j (by omega) e
    rw [this] at K
    exact K
theorem abW {Q : Bool → Heap → Prop} {mp : Nat} {g : Int → Option Int} {hh : Heap} (q : PR h p x S nx) (e : Ext h hh) (mg : MPg (Value.int .i64) hh mp g) (hg : PlG S S.tra.length g) (hn : S.val.length ≤ 1000) (hrl : S.rea.length = S.val.length) (htri : Tri S.val)
    (htl : S.tra.length ≤ 1000) (hcl : S.cls.length ≤ 1000) (hll : ∀ i, (S.cl i).lits.length ≤ 1000) (hc : ∀ i, i < S.cls.length → Ck S i) (ht : ∀ i, i < S.tra.length → Trk S i)
    (K : ∀ b h', (b = true ↔ ∀ i, i < S.tra.length → RkP S i) → Ext hh h' → Q b h') : gI (some p) (some mp) hh Q := by
  have hcn := q.rd.clen
  have htn := q.rd.tra.len
  refine nilp ((q.ext e).l5 ?_)
  refine loop.inv (fun (s0 : Int) h1 => Ext hh h1 ∧ ∃ i : Nat, s0 = (i : Int) ∧ i ≤ S.tra.length ∧ ∀ j, j < i → RkP S j) (fun s0 _ => S.tra.length - s0.toNat) ⟨Keep.refl _ _, 0, rfl, by omega, fun j hj => by omega⟩ ?_
  rintro _ h1 ⟨e1, i, rfl, hi, hall⟩
  rw [htn]
  refine ⟨fun hlt => ?_, fun hge => ?_⟩
  · simp only [decide_eq_true_eq] at hlt
    have hi' : i < S.tra.length := by omega
    have T := ht i hi'
    refine seq.cut (fun (_ : Unit) h2 => Ext hh h2 ∧ RkP S i) ?_ ?_
    · refine q.rd.tra.ldE (e.trans e1) (j := i) rfl hi' ?_
      show ah _ _
      refine nilp ((q.ext (e.trans e1)).l4 ?_)
      refine eK T.th (by omega) ⟨(q.ext (e.trans e1)).c 4 (by decide), ?_⟩
      refine q.rd.rea.ldE (e.trans e1) (j := tr (tl S i)) rfl (by have := T.th.tr; omega) ?_
      refine ⟨fun hm1 => ⟨e1, .inl (by simpa using hm1)⟩, fun hm1 => ?_⟩
      have hm1 : atI S.rea (tr (tl S i)) ≠ -1 := by simpa using hm1
      have no : ∀ {c : Nat}, ¬ (atI S.rea (tr (tl S i)) = (c : Int) ∧ c < S.cls.length ∧ tl S i ∈ (S.cl c).lits ∧ ∀ m ∈ (S.cl c).lits, m ≠ tl S i → (∃ j, j < i ∧ tr (tl S j) = tr m) ∧ vl S.val m = -1) → atI S.rea (tr (tl S i)) = (c : Int) → ¬ RkP S i := by
        rintro c hno hce (h | ⟨c2, h2, h3⟩)
        · exact hm1 h
        · have : c2 = c := by omega
          subst this
          exact hno ⟨h2, h3⟩
      refine seq.cut (fun b h3 => Ext hh h3 ∧ (b = true → ¬ RkP S i) ∧ (b = false → ∃ c : Nat, atI S.rea (tr (tl S i)) = (c : Int) ∧ c < S.cls.length ∧ tl S i ∈ (S.cl c).lits)) ?_ ?_
      · refine ⟨fun hneg => ⟨e1, fun _ => ?_, nofun⟩, fun hpos => ?_⟩
        · simp only [decide_eq_true_eq] at hneg
          rintro (h | ⟨c, h2, _⟩)
          · exact hm1 h
          · omega
        · simp only [decide_eq_false_iff_not] at hpos
          obtain ⟨c, hce⟩ : ∃ c : Nat, atI S.rea (tr (tl S i)) = (c : Int) := ⟨(atI S.rea (tr (tl S i))).toNat, by omega⟩
          refine nilp ((q.ext (e.trans e1)).l0 ⟨fun hge => ⟨e1, fun _ => no (c := c) (fun h => ?_) hce, nofun⟩, fun hlt2 => ?_⟩)
          · simp only [decide_eq_true_eq] at hge
            omega
          · simp only [decide_eq_false_iff_not] at hlt2
            have hcc : c < S.cls.length := by omega
            refine nilp ((q.ext (e.trans e1)).l0 (q.rd.clE (e.trans e1) (j := c) hce hcc fun s hs => ?_))
            refine adB (R.ext hs (e.trans e1)) (by have := hll c; omega) ⟨e1, fun hb => no (c := c) (fun h => ?_) hce, fun hb => ⟨c, hce, hcc, ?_⟩⟩
            · have : ¬ tl S i ∈ (S.cl c).lits := by simpa [tl, aa7] using hb
              exact this h.2.2.1
            · simpa [tl, aa7] using hb
      · rintro b h3 ⟨e3, hbt, hbf⟩
        refine ⟨fun ht => K false h3 ⟨nofun, fun hR => absurd (hR i hi') (hbt ht)⟩ e3, fun hf => ?_⟩
        obtain ⟨c, hce, hcc, hmem⟩ := hbf hf
        have F := (hc c hcc).2
        refine nilp ((q.ext (e.trans e3)).l0 (q.rd.clE (e.trans e3) (j := c) hce hcc fun s hs => ?_))
        have hsl := hs.len
        have hlc := hll c
        refine loop.inv (fun (s2 : Int) h4 => Ext hh h4 ∧ ∃ k : Nat, s2 = (k : Int) ∧ k ≤ (S.cl c).lits.length ∧ ∀ m ∈ (S.cl c).lits.take k, m ≠ tl S i → (∃ j, j < i ∧ tr (tl S j) = tr m) ∧ vl S.val m = -1) (fun s2 _ => (S.cl c).lits.length - s2.toNat) ⟨e3, 0, rfl, by omega, fun m hm => by simp at hm⟩ ?_
        rintro _ h4 ⟨e4, k, rfl, hk, hall2⟩
        rw [hsl]
        refine ⟨fun hlt2 => ?_, fun hge2 => ?_⟩
        · simp only [decide_eq_true_eq] at hlt2
          have hk' : k < (S.cl c).lits.length := by omega
          have hmk := List.getElem_mem hk'
          have htk := List.take_succ_eq_append_getElem hk'
          refine RJ.ld (R.ext hs (e.trans e4)) (j := k) rfl hk' ?_
          rw [jV hk']
          generalize (S.cl c).lits[k] = m at *
          have th := F.1 m hmk
          refine eK th (by omega) ((mg.keep e4 (by simp)).look ?_)
          refine seq.cut (fun b h5 => Ext hh h5 ∧ (b = false ↔ (m ≠ tl S i → (∃ j, j < i ∧ tr (tl S j) = tr m) ∧ vl S.val m = -1))) ?_ ?_
          · refine ⟨fun hne => ?_, fun heq => ⟨e4, fun _ hne => ?_, fun _ => rfl⟩⟩
            · have hne : m ≠ tl S i := by simpa [tl, aa7] using hne
              refine ⟨fun hno => ⟨e4, nofun, fun hy => ?_⟩, fun his => ⟨fun hge => ⟨e4, nofun, fun hy => ?_⟩, fun hlt3 => ?_⟩⟩
              · obtain ⟨⟨j, hj, ej⟩, _⟩ := hy hne
                have := hg.1 j (by omega)
                rw [ej] at this
                rw [this] at hno; simp at hno
              · obtain ⟨⟨j, hj, ej⟩, _⟩ := hy hne
                have := hg.1 j (by omega)
                rw [ej] at this
                rw [this] at hge
                simp at hge; omega
              · have : ∃ j, j < i ∧ tr (tl S j) = tr m := by
                  refine Classical.byContradiction fun hno => ?_
                  by_cases ha : ∀ j, j < S.tra.length → tr (tl S j) ≠ tr m
                  · rw [hg.2 _ ha] at his; simp at his
                  · have ⟨j, ha⟩ := Classical.not_forall.1 ha
                    have ⟨hj, ha⟩ := Classical.not_imp.1 ha
                    have ha := Classical.not_not.1 ha
                    have := hg.1 j hj
                    rw [ha] at this
                    rw [this] at hlt3
                    simp at hlt3
                    exact hno ⟨j, by omega, ha⟩
                refine (q.ext (e.trans e4)).value (by omega) htri fun h5 e5 => ⟨e4.trans e5, fun hb _ => ⟨this, by simpa using hb⟩, fun hy => ?_⟩
                have := (hy hne).2
                simp [this]
            · have : m = tl S i := by simpa [tl, aa7] using heq
              exact absurd this hne
          · rintro b h5 ⟨e5, hb⟩
            refine ⟨fun hbt => K false h5 ⟨nofun, fun hR => ?_⟩ e5, fun hbf => ?_⟩
            · refine absurd (hR i hi') (no (c := c) (fun hh => ?_) hce)
              have := hb.2 (hh.2.2.2 m hmk); rw [this] at hbt; cases hbt
            · rw [w64 (by omega) (by omega)]
              refine ⟨⟨e5, k + 1, by omega, by omega, ?_⟩, by omega⟩
              rw [htk]
              intro y hy
              rcases List.mem_append.1 hy with hy | hy
              · exact hall2 y hy
              · rw [List.mem_singleton] at hy; subst hy; exact hb.1 hbf
        · simp only [decide_eq_false_iff_not] at hge2
          have : k = (S.cl c).lits.length := by omega
          subst this
          rw [List.take_length] at hall2
          exact ⟨e4, .inr ⟨c, hce, hcc, hmem, hall2⟩⟩
    · rintro _ h2 ⟨e2, hR⟩
      rw [w64 (by omega) (by omega)]
      refine ⟨⟨e2, i + 1, by omega, by omega, fun j hj => ?_⟩, by omega⟩
      by_cases g : j = i
      · subst g; exact hR
      · exact hall j (by omega)
  · simp only [decide_eq_false_iff_not] at hge
    exact K true h1 ⟨fun _ j hj => hall j (by omega), fun _ => rfl⟩ e1
theorem ad8 {Q : Bool → Heap → Prop} {hh : Heap} (q : PR h p x S nx) (e : Ext h hh) (hn : S.val.length ≤ 1000) (hrl : S.rea.length = S.val.length) (hhl : S.hea.length ≤ 1000) (htl : S.tra.length ≤ 1000) (ht : ∀ i, i < S.tra.length → Trk S i)
    (K : ∀ b, (b = true ↔ ∀ i, i < S.hea.length → Hk S i) → Q b hh) : mY (some p) hh Q := by
  have htn := q.rd.tra.len
  have hhn := q.rd.hea.len
  refine nilp ((q.ext e).l6 ?_)
  refine loop.inv (fun (s0 : Int) h1 => h1 = hh ∧ ∃ i : Nat, s0 = (i : Int) ∧ i ≤ S.hea.length ∧ ∀ j, j < i → Hk S j) (fun s0 _ => S.hea.length - s0.toNat) ⟨rfl, 0, rfl, by omega, fun j hj => by omega⟩ ?_
  rintro _ h1 ⟨rfl, i, rfl, hi, hall⟩
  rw [hhn]
  refine ⟨fun hlt => ?_, fun hge => ?_⟩
  · simp only [decide_eq_true_eq] at hlt
    have hi' : i < S.hea.length := by omega
    refine q.rd.hea.ldE e (j := i) rfl hi' ?_
    refine seq.cut (fun b h2 => h2 = h1 ∧ (b = false ↔ Hk S i)) ?_ ?_
    · refine ⟨fun hneg => ⟨rfl, nofun, fun hk => ?_⟩, fun hpos => ?_⟩
      · simp only [decide_eq_true_eq] at hneg; have := hk.lo; omega
      simp only [decide_eq_false_iff_not] at hpos
      refine nilp ((q.ext e).l5 ⟨fun hge => ⟨rfl, nofun, fun hk => ?_⟩, fun hlt2 => ?_⟩)
      · simp only [decide_eq_true_eq] at hge; have := hk.hi; omega
      simp only [decide_eq_false_iff_not] at hlt2
      obtain ⟨t, hte⟩ : ∃ t : Nat, atI S.hea i = (t : Int) := ⟨(atI S.hea i).toNat, by omega⟩
      have htt : t < S.tra.length := by omega
      have T := ht t htt
      have tail : (0 < i → atI S.hea (i - 1) < atI S.hea i) → ah (some p) fun a_5 =>
         Lift.load Sl.toV (a_5.add 4) h1 fun v_5 =>
         ah (some p) fun a_6 =>
         Lift.load Sl.toV (a_6.add 5) h1 fun v_6 =>
         idxS v_6 (atI S.hea i) 1 fun a_7 =>
         Lift.load (Value.int .i64) a_7 h1 fun v_7 =>
         aM v_7 h1 fun v_8 h0u2 =>
         (cell? h0u2 (a_5.add 4) = some (Sl.toV v_5)) ∧
         idxS v_5 v_8 1 fun a_8 =>
         Lift.load (Value.int .i64) a_8 h0u2 fun v_9 => (h0u2 = h1 ∧ ((v_9 != (-1)) = false ↔ Hk S i)) := by
        intro hmo
        refine nilp ((q.ext e).l4 (nilp ((q.ext e).l5 ?_)))
        refine q.rd.tra.ldE e (j := t) hte htt (eK T.th (by omega) ⟨(q.ext e).c 4 (by decide), ?_⟩)
        refine q.rd.rea.ldE e (j := tr (tl S t)) rfl (by have := T.th.tr; omega) ⟨rfl, ?_⟩
        have e1 : (atI S.hea i).toNat = t := by omega
        constructor
        · intro hb
          exact ⟨by omega, by omega, hmo, by rw [e1]; simpa using hb⟩
        · intro hk
          have := hk.re
          rw [e1] at this
          simp [this]
      refine ⟨fun hi0 => ?_, fun hi0 => ?_⟩
      · simp only [gt_iff_lt, decide_eq_true_eq] at hi0
        rw [w64 (by omega) (by omega)]
        refine nilp ((q.ext e).l6 (q.rd.hea.ldE e (j := i - 1) (by omega) (by omega) ⟨fun hle => ⟨rfl, nofun, fun hk => ?_⟩, fun hgt => ?_⟩))
        · simp only [decide_eq_true_eq] at hle; have := hk.mo (by omega); omega
        · simp only [decide_eq_false_iff_not] at hgt
          exact tail fun _ => by omega
      · simp only [gt_iff_lt, decide_eq_false_iff_not] at hi0
        exact tail fun h => by omega
    · rintro b h2 ⟨rfl, hb⟩
      refine ⟨fun hbt => K false ⟨nofun, fun hH => ?_⟩, fun hbf => ?_⟩
      · have := hb.2 (hH i hi'); rw [this] at hbt; cases hbt
      · rw [w64 (by omega) (by omega)]
        refine ⟨⟨rfl, i + 1, by omega, by omega, fun j hj => ?_⟩, by omega⟩
        by_cases g : j = i
        · subst g; exact hb.1 hbf
        · exact hall j (by omega)
  · simp only [decide_eq_false_iff_not] at hge
    exact K true ⟨fun _ j hj => hall j (by omega), fun _ => rfl⟩
end Go.Sh.Cl

namespace Go.Sh.Cl
open Go Go.Lift Go.Cla
variable {h h' h0 : Heap} {p : Addr} {x : S8} {S : SS} {nx : Int} {n : Nat}
theorem aiE {Q : Bool → Heap → Prop} (q : PR h p x S nx) (hn : S.val.length ≤ 1000) (hll2 : S.lev.length = S.val.length) (hrl : S.rea.length = S.val.length) (htri : Tri S.val)
    (htl : S.tra.length ≤ 1000) (hhl : S.hea.length ≤ 1000) (hcl : S.cls.length ≤ 1000) (hll : ∀ i, (S.cl i).lits.length ≤ 1000) (hc : ∀ i, i < S.cls.length → Ck S i)
    (K : ∀ b h', (b = true ↔ (∀ i, i < S.tra.length → Trk S i) ∧ (∀ v, v < S.val.length → Fk S v) ∧ ∀ i, i < S.tra.length → RkP S i) → Ext h h' → Q b h') : kS (some p) h Q := by
  have htn := q.rd.tra.len
  have hhn := q.rd.hea.len
  have hvn := q.rd.val.len
  refine MPg.new (toV := Value.int .i64) fun h1 m1 e1 _ => nilp ((q.ext e1).l5 ?_)
  refine loop.inv (fun (s0 : Int × Int) hh => Ext h hh ∧ ∃ (k i : Nat) (g : Int → Option Int), s0.1 = (k : Int) ∧ s0.2 = (i : Int) ∧ i ≤ S.tra.length ∧ k ≤ S.hea.length ∧ (∀ j, j < k → atI S.hea j ≤ (i : Int)) ∧ MPg (Value.int .i64) hh h.size g ∧ PlG S i g ∧ ∀ j, j < i → Trk S j) (fun s0 _ => S.tra.length - s0.2.toNat)
    ⟨e1, 0, 0, _, rfl, rfl, by omega, by omega, fun j hj => by omega, m1, ⟨fun j hj => by omega, fun v hv => rfl⟩, fun j hj => by omega⟩ ?_
  rintro ⟨_, _⟩ hh ⟨ee, k, i, g, rfl, rfl, hi, hk, hlow, mg, hg, hall⟩
  dsimp only
  rw [htn]
  refine ⟨fun hlt => ?_, fun hge => ?_⟩
  · simp only [decide_eq_true_eq] at hlt
    have hi' : i < S.tra.length := by omega
    refine q.rd.tra.ldE ee (j := i) rfl hi' ?_
    show loop _ _ _
    refine loop.inv (fun (s2 : Int) h2 => h2 = hh ∧ ∃ m : Nat, s2 = (m : Int) ∧ m ≤ S.hea.length ∧ ∀ j, j < m → atI S.hea j ≤ (i : Int)) (fun s2 _ => S.hea.length - s2.toNat) ⟨rfl, k, rfl, hk, hlow⟩ ?_
    rintro _ h2 ⟨rfl, m, rfl, hm, hlo⟩
    refine seq.cut (fun b h3 => h3 = h2 ∧ (b = true → m < S.hea.length ∧ atI S.hea m ≤ (i : Int)) ∧ (b = false → IsLvl S.hea i m)) ?_ ?_
    · refine nilp ((q.ext ee).l6 ?_)
      rw [hhn]
      refine ⟨fun hl => ?_, fun hl => ⟨rfl, nofun, fun _ => ⟨hm, hlo, fun h => ?_⟩⟩⟩
      · simp only [decide_eq_true_eq] at hl
        refine nilp ((q.ext ee).l6 (q.rd.hea.ldE ee (j := m) rfl (by omega) ⟨rfl, fun h => ⟨by omega, by simpa using h⟩, fun h => ⟨hm, hlo, fun _ => ?_⟩⟩))
        have : ¬ atI S.hea m ≤ (i : Int) := by simpa using h
        omega
      · simp only [decide_eq_false_iff_not] at hl; omega
    · rintro b h3 ⟨rfl, hbt, hbf⟩
      refine ⟨fun ht => ?_, fun hf => ?_⟩
      · obtain ⟨g1, g2⟩ := hbt ht
        rintro _ rfl
        rw [w64 (by omega) (by omega)]
        refine ⟨⟨rfl, m + 1, by omega, by omega, fun j hj => ?_⟩, by omega⟩
        by_cases g : j = m
        · subst g; exact g2
        · exact hlo j (by omega)
      · have lv := hbf hf
        have bad : ¬ Trk S i → ∀ h', Ext h h' → Q false h' := fun hno h' e' => K false h' ⟨nofun, fun hR => absurd (hR.1 i hi') hno⟩ e'
        unfold jH
        refine (q.ext ee).there (by omega) ⟨fun hno => ?_, fun hy => ?_⟩
        · have hno : ¬ There S.val.length (atI S.tra i) := by simpa using hno
          refine mg.look ?_
          refine seq.cut (fun b h4 => h4 = h3 ∧ b = true) ?_ ?_
          · refine (q.ext ee).there (by omega) ⟨fun _ => ⟨rfl, rfl⟩, fun h => ?_⟩
            simp [hno] at h
          · rintro b h4 ⟨rfl, rfl⟩
            exact ⟨fun _ => bad (fun T => hno T.th) _ ee, nofun⟩
        · have th : There S.val.length (tl S i) := by simpa [tl] using hy
          refine eK th (by omega) (mg.look ?_)
          refine seq.cut (fun b h4 => h4 = h3 ∧ (b = false ↔ Trk S i)) ?_ ?_
          · refine (q.ext ee).there (by omega) ⟨fun h => ?_, fun _ => ⟨fun h => ⟨rfl, nofun, fun T => ?_⟩, fun hnew => ?_⟩⟩
            · have : ¬ There S.val.length (tl S i) := by simpa [tl] using h
              exact absurd th this
            · have h : (g (tr (tl S i) : Int)).isSome = true := h
              rw [hg.2 _ T.fst] at h; simp at h
            · have hfst : ∀ j, j < i → tr (tl S j) ≠ tr (tl S i) := fun j hj e => by
                have := hg.1 j hj
                rw [e] at this
                have hnew : (g (tr (tl S i) : Int)).isSome = false := hnew
                rw [this] at hnew; simp at hnew
              refine nilp ((q.ext ee).l2 (eK th (by omega) ⟨(q.ext ee).c 2 (by decide), ?_⟩))
              refine q.rd.val.ld2E ee (j := tr (tl S i)) rfl th.tr fun a hca => ?_
              refine oU th.1 ⟨(q.ext ee).c 2 (by decide), ao ee hca (by simp), fun hne => ⟨rfl, nofun, fun T => ?_⟩, fun heq => ?_⟩
              · have := T.sgn; exact absurd this (by simpa [tl] using hne)
              · have hsg : atI S.val (tr (tl S i)) = sg (tl S i) := by simpa [tl] using heq
                refine nilp ((q.ext ee).l3 (eK th (by omega) ⟨(q.ext ee).c 3 (by decide), ?_⟩))
                refine q.rd.lev.ldE ee (j := tr (tl S i)) rfl (by have := th.tr; omega) ⟨rfl, fun hle => ⟨th, hfst, hsg, m, lv, by simpa using hle⟩, fun T => ?_⟩
                obtain ⟨m2, l2, e2⟩ := T.lev
                have := lv.one l2
                subst this
                simp [e2]
          · rintro b h4 ⟨rfl, hb⟩
            refine ⟨fun hbt => bad (fun T => ?_) _ ee, fun hbf => ?_⟩
            · have := hb.2 T; rw [this] at hbt; cases hbt
            · have T := hb.1 hbf
              refine eK th (by omega) (mg.set fun h5 m5 k5 _ => ?_)
              rw [w64 (by omega) (by omega)]
              refine ⟨⟨ee.fresh (Nat.le_refl _) k5, m, i + 1, _, rfl, by simp, by omega, hm, fun j hj => by have := hlo j hj; omega, m5, hg.succ T.fst, fun j hj => ?_⟩, by (try dsimp only); omega⟩
              by_cases g : j = i
              · subst g; exact T
              · exact hall j (by omega)
  · simp only [decide_eq_false_iff_not] at hge
    have : i = S.tra.length := by omega
    subst this
    refine nilp ((q.ext ee).l2 ?_)
    rw [hvn]
    refine loop.inv (fun (s3 : Int) h3 => h3 = hh ∧ ∃ v : Nat, s3 = (v : Int) ∧ v ≤ S.val.length ∧ ∀ u, u < v → Fk S u) (fun s3 _ => S.val.length - s3.toNat) ⟨rfl, 0, rfl, by omega, fun u hu => by omega⟩ ?_
    rintro _ h3 ⟨rfl, v, rfl, hv, hf⟩
    refine ⟨fun hlt => ?_, fun hge2 => ?_⟩
    · simp only [decide_eq_true_eq] at hlt
      have hv' : v < S.val.length := by omega
      refine mg.look ?_
      refine seq.cut (fun b h4 => h4 = h3 ∧ (b = false ↔ Fk S v)) ?_ ?_
      · refine ⟨fun hno => ?_, fun his => ⟨rfl, fun _ hh => ?_, fun _ => rfl⟩⟩
        · have free : ∀ i, i < S.tra.length → tr (tl S i) ≠ v := fun i hi e => by
            have := hg.1 i hi
            rw [e] at this
            rw [this] at hno; simp at hno
          refine nilp ((q.ext ee).l2 (q.rd.val.ldE ee (j := v) rfl hv' ⟨fun hne => ⟨rfl, nofun, fun F => ?_⟩, fun h0 => ?_⟩))
          · simp [(F free).1] at hne
          refine nilp ((q.ext ee).l3 (q.rd.lev.ldE ee (j := v) rfl (by omega) ⟨fun hne => ⟨rfl, nofun, fun F => ?_⟩, fun h1 => ?_⟩))
          · simp [(F free).2.1] at hne
          refine nilp ((q.ext ee).l4 (q.rd.rea.ldE ee (j := v) rfl (by omega) ⟨rfl, fun h2 _ => ⟨by simpa using h0, by simpa using h1, by simpa using h2⟩, fun F => ?_⟩))
          simp [(F free).2.2]
        · rw [hg.2 v hh] at his; simp at his
      · rintro b h4 ⟨rfl, hb⟩
        refine ⟨fun hbt => K false h4 ⟨nofun, fun hR => ?_⟩ ee, fun hbf => ?_⟩
        · have := hb.2 (hR.2.1 v hv'); rw [this] at hbt; cases hbt
        · rw [w64 (by omega) (by omega)]
          refine ⟨⟨rfl, v + 1, by omega, by omega, fun u hu => ?_⟩, by omega⟩
          by_cases g : u = v
          · subst g; exact hb.1 hbf
          · exact hf u (by omega)
    · simp only [decide_eq_false_iff_not] at hge2
      refine abW q ee mg hg hn hrl htri htl hcl hll hc hall fun b h4 hb e4 => K b h4 ?_ (ee.trans e4)
      rw [hb]
      exact ⟨fun hr => ⟨hall, fun v hv => hf v (by omega), hr⟩, fun hr => hr.2.2⟩
structure Few8 (S : SS) : Prop where
  v : S.val.length ≤ 400
  c : S.cls.length ≤ 400
  w : S.wat.length ≤ 400
  t : S.tra.length ≤ 400
  h : S.hea.length ≤ 400
  l : ∀ i, (S.cl i).lits.length ≤ 400
  wl : ∀ w, (S.wt w).length ≤ 400
theorem akA {Q : Bool → Heap → Prop} (q : SRd h x S nx) (f : Few8 S) (K : ∀ b h', (b = true ↔ RightS S nx) → Ext h h' → Q b h') : lH x h Q := by
  intro T
  have e := Ext.push h (.cells [Sl.toV x.1, Sl.toV x.2.1, Sl.toV x.2.2.1, Sl.toV x.2.2.2.1, Sl.toV x.2.2.2.2.1, Sl.toV x.2.2.2.2.2.1, Sl.toV x.2.2.2.2.2.2.1, Value.int .i64 x.2.2.2.2.2.2.2].toArray T (0, 0))
  have P : PR (h.push (.cells [Sl.toV x.1, Sl.toV x.2.1, Sl.toV x.2.2.1, Sl.toV x.2.2.2.1, Sl.toV x.2.2.2.2.1, Sl.toV x.2.2.2.2.2.1, Sl.toV x.2.2.2.2.2.2.1, Value.int .i64 x.2.2.2.2.2.2.2].toArray T (0, 0))) ⟨h.size, 0, none⟩ x S nx := by
    refine ⟨q.ext e, ?_⟩
    have := cells?_mk (h := h.push (.cells [Sl.toV x.1, Sl.toV x.2.1, Sl.toV x.2.2.1, Sl.toV x.2.2.2.1, Sl.toV x.2.2.2.2.1, Sl.toV x.2.2.2.2.2.1, Sl.toV x.2.2.2.2.2.2.1, Value.int .i64 x.2.2.2.2.2.2.2].toArray T (0, 0))) (a := ⟨h.size, 0, none⟩) (ag x) 0 (fun j hj => by
      rw [Nat.zero_add, cO]
      match j, hj with
      | 0, _ => rfl
      | 1, _ => rfl
      | 2, _ => rfl
      | 3, _ => rfl
      | 4, _ => rfl
      | 5, _ => rfl
      | 6, _ => rfl
      | 7, _ => rfl)
    exact this
  generalize (h.push (.cells [Sl.toV x.1, Sl.toV x.2.1, Sl.toV x.2.2.1, Sl.toV x.2.2.2.1, Sl.toV x.2.2.2.2.1, Sl.toV x.2.2.2.2.2.1, Sl.toV x.2.2.2.2.2.2.1, Value.int .i64 x.2.2.2.2.2.2.2].toArray T (0, 0)) : Heap) = h1 at *
  generalize (⟨h.size, 0, none⟩ : Addr) = p at *
  have hv := q.val.len; have hw := q.wlen; have hl := q.lev.len; have hr := q.rea.len; have ht := q.tra.len; have hcn := q.clen
  have f1 := f.v; have f2 := f.c; have f3 := f.w; have f4 := f.t; have f5 := f.h
  refine P.l2 ?_
  rintro _ rfl
  rw [hv]
  refine seq.cut (fun b h2 => h2 = h1 ∧ (b = true → ¬ RightS S nx) ∧ (b = false → S.wat.length = 2 * S.val.length ∧ S.lev.length = S.val.length ∧ S.rea.length = S.val.length ∧ 0 ≤ nx ∧ nx ≤ (S.tra.length : Int))) ?_ ?_
  · refine P.l1 ⟨fun hb => ⟨rfl, fun _ R => ?_, nofun⟩, fun hb1 => P.l3 ⟨fun hb => ⟨rfl, fun _ R => ?_, nofun⟩, fun hb2 => P.l4 ⟨fun hb => ⟨rfl, fun _ R => ?_, nofun⟩, fun hb3 => P.l7 ⟨fun hb => ⟨rfl, fun _ R => ?_, nofun⟩, fun hb4 => P.l7 (P.l5 ⟨rfl, fun hb R => ?_, fun hb5 => ?_⟩)⟩⟩⟩⟩
    · rw [w64 (by omega) (by omega), hw] at hb
      have := R.wlen; rw [this] at hb; simp at hb
    · rw [hl] at hb; have := R.llen; rw [this] at hb; simp at hb
    · rw [hr] at hb; have := R.rlen; rw [this] at hb; simp at hb
    · have := R.nlo; simp only [decide_eq_true_eq] at hb; omega
    · have := R.nhi; simp only [gt_iff_lt, decide_eq_true_eq] at hb; omega
    · rw [w64 (by omega) (by omega), hw] at hb1
      rw [hl] at hb2; rw [hr] at hb3
      have b1 : (S.wat.length : Int) = 2 * (S.val.length : Int) := by simpa using hb1
      have b2 : (S.lev.length : Int) = (S.val.length : Int) := by simpa using hb2
      have b3 : (S.rea.length : Int) = (S.val.length : Int) := by simpa using hb3
      have b4 : ¬ nx < 0 := by simpa using hb4
      have b5 : ¬ nx > (x.2.2.2.2.2.1.len : Int) := by simpa using hb5
      exact ⟨by omega, by omega, by omega, by omega, by omega⟩
  rintro b h2 ⟨rfl, hbt, hbf⟩
  refine ⟨fun hb => K false h2 ⟨nofun, fun R => absurd R (hbt hb)⟩ e, fun hb => ?_⟩
  obtain ⟨g1, g2, g3, g4, g5⟩ := hbf hb
  have hll := f.l
  have hwl := f.wl
  refine seq.cut (fun b h3 => Ext h2 h3 ∧ (b = true → ¬ RightS S nx) ∧ (b = false → (∀ i, i < S.cls.length → Ck S i) ∧ Tri S.val)) ?_ ?_
  · refine P.l0 (z6 P (by omega) (by omega) (fun i hi => by have := hll i; omega) fun b h3 hb e3 => ⟨fun hbt => ⟨e3, fun _ R => ?_, nofun⟩, fun hbf => (P.ext e3).l2 (zM (P.ext e3).rd.val (by omega) fun b2 hb2 => ⟨e3, fun hbt R => ?_, fun hbf2 => ⟨hb.1 hbf, hb2.1 hbf2⟩⟩)⟩)
    · have := hb.2 R.cls; rw [this] at hbt; cases hbt
    · have := hb2.2 (alK R.tra R.fre); rw [this] at hbt; cases hbt
  rintro b h3 ⟨e3, hbt2, hbf2⟩
  refine ⟨fun hb => K false h3 ⟨nofun, fun R => absurd R (hbt2 hb)⟩ (e.trans e3), fun hb => ?_⟩
  obtain ⟨hc, htri⟩ := hbf2 hb
  refine seq.cut (fun b h4 => Ext h2 h4 ∧ (b = true ↔ RightS S nx)) ?_ fun b h4 ⟨e4, hb4⟩ => K b h4 hb4 (e.trans e4)
  refine adc (P.ext e3) (by omega) g1 hc (by omega) (fun w => by have := hwl w; omega) fun b h4 hb4 e4 => ⟨fun hbt => ?_, fun hbf => ⟨e3.trans e4, nofun, fun R => ?_⟩⟩
  · obtain ⟨c1, c2⟩ := hb4.1 hbt
    refine aiE (P.ext (e3.trans e4)) (by omega) g2 g3 htri (by omega) (by omega) (by omega) (fun i => by have := hll i; omega) hc fun b h5 hb5 e5 => ⟨fun hbt => ?_, fun hbf => ⟨e3.trans (e4.trans e5), nofun, fun R => ?_⟩⟩
    · obtain ⟨d1, d2, d3⟩ := hb5.1 hbt
      refine ad8 (P.ext (e3.trans (e4.trans e5))) (Keep.refl _ _) (by omega) g3 (by omega) (by omega) d1 fun b hb6 => ⟨e3.trans (e4.trans e5), ?_⟩
      rw [hb6]
      exact ⟨fun hH => ⟨g1, g2, g3, g4, g5, hc, c1, c2, d1, hH, d2, d3⟩, fun R => R.hea⟩
    · have := hb5.2 ⟨R.tra, R.fre, R.rea⟩; rw [this] at hbf; cases hbf
  · have := hb4.2 ⟨R.tot, R.wat⟩; rw [this] at hbf; cases hbf
end Go.Sh.Cl

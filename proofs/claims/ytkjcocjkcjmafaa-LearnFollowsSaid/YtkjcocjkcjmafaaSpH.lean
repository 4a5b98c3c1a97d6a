/-
  Laws that the proof of this claim's statement leans on, each proved under the conditions that it states.
-/
import Derived.Test.YtkjcocjkcjmafaaSpX
set_option linter.unusedVariables false
set_option linter.unusedSimpArgs false
namespace Go.Sh
open Go Go.Lift Go.Cla
variable {h h' : Heap} {x : S8} {S : SS} {nx : Int}
def trI (l : Int) : Int := IntKind.wrap .i64 ((if (IntKind.wrap .i64 (0 - l)) > l then (IntKind.wrap .i64 (0 - l)) else l) - 1)
theorem ltruth_spec {l : Int} {Q : Int → Heap → Prop} (K : Q (trI l) h) : learn_truth l h Q := K
theorem trI_there {n : Nat} {l : Int} (hl : There n l) (hn : n ≤ 1048576) : trI l = (tr l : Int) := by
  unfold There at hl
  unfold trI tr
  rw [w64 (n := 0 - l) (by omega) (by omega)]
  split
  · rw [w64 (by omega) (by omega)]; omega
  · rw [w64 (by omega) (by omega)]; omega
def lvI (S : SS) (l : Int) : Int := if l ≠ 0 ∧ 0 ≤ trI l ∧ trI l < (S.lev.length : Int) then atI S.lev (trI l).toNat else 0
theorem lat_spec {l : Int} {Q : Int → Heap → Prop} (q : SRd h x S nx) (K : ∀ h', Ext h h' → Q (lvI S l) h') : learn_at x l h Q := by
  refine mem_ext fun h1 e1 => ltruth_spec ?_
  have hlen := q.lev.len
  refine seq.cut (fun (b : Bool) h2 => h2 = h1 ∧ (b = true ↔ l ≠ 0 ∧ 0 ≤ trI l ∧ trI l < (S.lev.length : Int))) ?_ ?_
  · refine ⟨fun g1 => ⟨fun g2 => ⟨rfl, ?_⟩, fun g2 => ⟨rfl, ?_⟩⟩, fun g1 => ⟨rfl, ?_⟩⟩
    · have g1 : l ≠ 0 := by simpa using g1
      have g2 := of_decide_eq_true g2
      rw [decide_eq_true_eq, hlen]
      exact ⟨fun h => ⟨g1, g2, h⟩, fun h => h.2.2⟩
    · have g2 := of_decide_eq_false g2
      simp only [Bool.false_eq_true, false_iff]
      intro h; omega
    · have g1 : l = 0 := by simpa using g1
      simp [g1]
  rintro b h2 ⟨rfl, hb⟩
  unfold lvI at K
  refine ⟨fun g => ?_, fun g => ?_⟩
  · have hh := hb.1 g
    rw [if_pos hh] at K
    refine RJ.ldE q.lev e1 (j := (trI l).toNat) (by omega) (by omega) ?_
    exact K _ e1
  · have hh : ¬ (l ≠ 0 ∧ 0 ≤ trI l ∧ trI l < (S.lev.length : Int)) := fun hh => by rw [hb.2 hh] at g; cases g
    rw [if_neg hh] at K
    exact K _ e1
def mxL (S : SS) (ls : List Int) : Int := ls.foldl (fun m l => if lvI S l > m then lvI S l else m) 0
theorem mxL_app (S : SS) (ls : List Int) (l : Int) : mxL S (ls ++ [l]) = if lvI S l > mxL S ls then lvI S l else mxL S ls := by
  unfold mxL; rw [List.foldl_append]; rfl
theorem lLevel_spec {s : Sl} {ls : List Int} {Q : Int → Heap → Prop} (q : SRd h x S nx) (hr : RJ h s ls) (hl : ls.length ≤ 1000000) (K : ∀ h', Ext h h' → Q (mxL S ls) h') : learn_Level x s h Q := by
  have hlen := hr.len
  refine mem_ext fun h0 e0 => ?_
  refine loop.inv (fun (t : Int × Int) hh => ∃ i : Nat, t.2 = (i : Int) ∧ i ≤ ls.length ∧ t.1 = mxL S (ls.take i) ∧ Ext h hh) (fun t _ => ls.length - t.2.toNat) ⟨0, rfl, by omega, rfl, e0⟩ ?_
  rintro ⟨_, _⟩ h1 ⟨i, rfl, hi, rfl, e1⟩
  dsimp only
  refine ⟨fun g => ?_, fun g => ?_⟩
  · have g := of_decide_eq_true g
    have hi' : i < ls.length := by omega
    refine RJ.ldE hr e1 (j := i) rfl hi' ?_
    refine lat_spec (q.ext e1) fun h2 e2 => ?_
    rintro _ rfl
    rw [w64 (by omega) (by omega)]
    refine ⟨⟨i + 1, by simp, by omega, ?_, e1.trans e2⟩, by omega⟩
    rw [List.take_succ_eq_append_getElem hi', mxL_app, show atI ls i = ls[i] from at_get hi']
  · have g := of_decide_eq_false g
    have : i = ls.length := by omega
    subst this
    rw [List.take_length]
    exact K _ e1
end Go.Sh

namespace Go.Sh
open Go Go.Lift Go.Cla
variable {h h' : Heap} {x : S8} {S : SS} {nx : Int}
structure Ready (S : SS) (ls : List Int) : Prop where
  neg : ∀ l ∈ ls, vl S.val l = -1
  one : (ls.map tr).Nodup
  hea : 0 < S.hea.length
  lev : mxL S ls = (S.hea.length : Int)
open Classical in
theorem ready_spec {s : Sl} {ls : List Int} {Q : Bool → Heap → Prop} (q : SRd h x S nx) (ht : Tri S.val) (hn : S.val.length ≤ 1048576) (hr : RJ h s ls) (hl : ls.length ≤ 1000000) (K : ∀ b h', (b = true ↔ Ready S ls) → Ext h h' → Q b h') : learn_ready x s h Q := by
  have hlen := hr.len
  refine mem_ext fun h0 e0 => MPg.new (toV := Value.bool) fun h1 m1 e1 z1 => ?_
  have s0 := e0.size
  have e01 := e0.trans e1
  refine loop.inv (fun (t : Int) hh => ∃ i : Nat, t = (i : Int) ∧ i ≤ ls.length ∧ (∀ l ∈ ls.take i, vl S.val l = -1) ∧ ((ls.take i).map tr).Nodup ∧ MPg Value.bool hh h0.size (fun k => if ∃ l ∈ ls.take i, k = (tr l : Int) then some true else none) ∧ Ext h hh) (fun t _ => ls.length - t.toNat)
    ⟨0, rfl, by omega, by simp, by simp, m1.same (by simp), e01⟩ ?_
  rintro t h2 ⟨i, rfl, hi, hneg, hone, m2, e2⟩
  refine ⟨fun g => ?_, fun g => ?_⟩
  · have g := of_decide_eq_true g
    have hi' : i < ls.length := by omega
    have ea : at0 ls i = ls[i] := at_get hi'
    refine RJ.ldE hr e2 (j := i) rfl hi' ?_
    rw [show atI ls i = ls[i] from ea]
    generalize hli : ls[i] = l at *
    have hmem : l ∈ ls := by rw [← hli]; exact List.getElem_mem hi'
    refine seq.cut (fun (b : Bool) hh => Ext h2 hh ∧ (b = false ↔ vl S.val l = -1 ∧ ¬ ∃ m ∈ ls.take i, tr l = tr m)) ?_ ?_
    · refine Value_spec (q.ext e2).val hn ht fun h3 e3 => ⟨fun g1 => ⟨e3, ?_⟩, fun g1 => ?_⟩
      · have g1 : vl S.val l ≠ -1 := by simpa using g1
        simp [g1]
      · have g1 : vl S.val l = -1 := by simpa using g1
        have th := vl_there (V := S.val) (l := l) (by omega)
        refine ltruth_spec ?_
        rw [trI_there th hn]
        refine (m2.keep e3 (by simp)).look ⟨e3, ?_⟩
        dsimp only
        split
        · rename_i hh
          obtain ⟨m, hm, e⟩ := hh
          simp only [Option.getD_some, Bool.true_eq_false, false_iff, not_and, not_not]
          intro _
          exact ⟨m, hm, by omega⟩
        · rename_i hh
          simp only [Option.getD_none, true_iff]
          exact ⟨g1, fun ⟨m, hm, e⟩ => hh ⟨m, hm, by rw [e]⟩⟩
    rintro b h3 ⟨e3, hb⟩
    refine ⟨fun gb => ?_, fun gb => ?_⟩
    · refine K false h3 ?_ (e2.trans e3)
      simp only [Bool.false_eq_true, false_iff]
      intro R
      have : b = false := hb.2 ⟨R.neg l hmem, fun ⟨m, hm, e⟩ => by
        have hp := R.one
        have el : ls = ls.take i ++ (l :: ls.drop (i + 1)) := by rw [← hli, ← List.drop_eq_getElem_cons hi', List.take_append_drop]
        rw [el, List.map_append, List.nodup_append] at hp
        exact hp.2.2 (tr m) (List.mem_map_of_mem hm) (tr l) (by simp) e.symm⟩
      rw [this] at gb; cases gb
    · obtain ⟨v1, v2⟩ := hb.1 gb
      have th := vl_there (V := S.val) (l := l) (by omega)
      refine ltruth_spec ?_
      rw [trI_there th hn]
      refine (m2.keep e3 (by simp)).set fun h4 m4 k4 _ => ?_
      rw [w64 (by omega) (by omega)]
      have tk : ls.take (i + 1) = ls.take i ++ [l] := by rw [List.take_succ_eq_append_getElem hi', hli]
      refine ⟨⟨i + 1, by omega, by omega, fun m hm => ?_, ?_, m4.same fun k => ?_, ?_⟩, by omega⟩
      · rw [tk] at hm
        rcases List.mem_append.1 hm with hm | hm
        · exact hneg m hm
        · simp at hm; subst hm; exact v1
      · rw [tk, List.map_append, List.nodup_append]
        refine ⟨hone, by simp, fun a ha b hb e => ?_⟩
        simp at hb
        obtain ⟨m, hm, rfl⟩ := List.mem_map.1 ha
        exact v2 ⟨m, hm, by rw [← hb, e]⟩
      · rw [tk]
        by_cases e : k = (tr l : Int)
        · rw [if_pos e, if_pos ⟨l, by simp, e⟩]
        · rw [if_neg e]
          have : (∃ m ∈ ls.take i ++ [l], k = (tr m : Int)) ↔ ∃ m ∈ ls.take i, k = (tr m : Int) := by
            constructor
            · rintro ⟨m, hm, e2⟩
              rcases List.mem_append.1 hm with hm | hm
              · exact ⟨m, hm, e2⟩
              · simp at hm; subst hm; exact absurd e2 e
            · rintro ⟨m, hm, e2⟩; exact ⟨m, List.mem_append_left _ hm, e2⟩
          by_cases hh : ∃ m ∈ ls.take i, k = (tr m : Int)
          · rw [if_pos hh, if_pos (this.2 hh)]
          · rw [if_neg hh, if_neg (fun h => hh (this.1 h))]
      · exact (e2.trans e3).fresh s0 k4
  · have g := of_decide_eq_false g
    have : i = ls.length := by omega
    subst this
    rw [List.take_length] at hneg hone
    have hh := q.hea.len
    refine seq.cut (fun (b : Bool) hh => Ext h hh ∧ (b = true ↔ 0 < S.hea.length ∧ mxL S ls = (S.hea.length : Int))) ?_ ?_
    · refine ⟨fun g1 => ?_, fun g1 => ⟨e2, ?_⟩⟩
      · have g1 := of_decide_eq_true g1
        refine lLevel_spec (q.ext e2) (R.ext hr e2) hl fun h3 e3 => ⟨e2.trans e3, ?_⟩
        rw [beq_iff_eq, hh]
        exact ⟨fun h => ⟨by omega, h⟩, fun h => h.2⟩
      · have g1 := of_decide_eq_false g1
        simp only [Bool.false_eq_true, false_iff]
        intro h; omega
    rintro b h3 ⟨e3, hb⟩
    exact K b h3 ⟨fun h => ⟨hneg, hone, (hb.1 h).1, (hb.1 h).2⟩, fun R => hb.2 ⟨R.hea, R.lev⟩⟩ e3
end Go.Sh

namespace Go.Sh
open Go Go.Lift Go.Cla
theorem MPg.ent {α : Type} {toV : α → Value} {h : Heap} {mp : Nat} {g : Int → Option α} (p : MPg toV h mp g) {key : Int} {v zero : α} {k : Heap → Prop} (K : ∀ h', MPg toV h' mp (fun j => if j = key then some v else g j) → Keep (some mp) h h' → h'.size = h.size → k h') :
    entryM .i64 toV zero (some mp) key h fun en h1 => entryS .i64 toV (some mp) en.2 v h1 k := by
  have hlt := p.lt
  obtain ⟨f, h1, h2⟩ := p
  refine ⟨mp, f, rfl, h1, fun es c st he hs => ⟨mp, es, c, addM f key zero, key, rfl, by simp [hlt], he, hs, fun es' he' => K _ ⟨updM (addM f key zero) key v, ⟨es', c, by simp [hlt], he'⟩, fun j => ?_⟩ ⟨by simp, fun b hb hne => ?_⟩ (by simp)⟩⟩
  · rw [lookup_updM, lookup_addM, h2]
    by_cases e : j = key
    · subst e; simp
    · have : (j == key) = false := by simpa using e
      simp only [this, Bool.false_eq_true, if_false, e]
      exact h2 j
  · rw [Array.getElem?_setIfInBounds_ne (fun e => hne (by rw [e])), Array.getElem?_setIfInBounds_ne (fun e => hne (by rw [e]))]
end Go.Sh

namespace Go.Sh
open Go Go.Lift Go.Cla
variable {h0 hb h h' : Heap} {x : S8} {S : SS} {nx : Int} {a : Addr} {mp1 mp2 : Nat} {gs : Int → Option Int} {gn : Int → Option Bool} {c : Int}
structure Fr3 (hb h : Heap) (a : Addr) (mp1 mp2 : Nat) : Prop where
  size : hb.size ≤ h.size
  same : ∀ b, b < hb.size → b ≠ a.block → b ≠ mp1 → b ≠ mp2 → h[b]? = hb[b]?
theorem Fr3.refl : Fr3 h h a mp1 mp2 := ⟨Nat.le_refl _, fun _ _ _ _ _ => rfl⟩
theorem Fr3.keep (f : Fr3 hb h a mp1 mp2) {o : Option Nat} (k : Keep o h h') (ho : o = none ∨ o = some a.block ∨ o = some mp1 ∨ o = some mp2) : Fr3 hb h' a mp1 mp2 :=
  ⟨Nat.le_trans f.size k.size, fun b hb h1 h2 h3 => by
    rw [k.same b (Nat.lt_of_lt_of_le hb f.size) ?_, f.same b hb h1 h2 h3]
    rcases ho with rfl | rfl | rfl | rfl
    · simp
    · exact fun e => h1 (Option.some.inj e)
    · exact fun e => h2 (Option.some.inj e)
    · exact fun e => h3 (Option.some.inj e)⟩
structure WK (h0 hb h : Heap) (a : Addr) (x : S8) (mp1 mp2 : Nat) (gs : Int → Option Int) (gn : Int → Option Bool) (c : Int) : Prop where
  ext : Ext h0 h
  fr : Fr3 hb h a mp1 mp2
  spot : a.spot = none
  cs : ∀ k (hk : k < 8), cell? h (a.add k) = some ((C_sl_sl_sl_sl_sl_sl_sl_i64 x)[k]'hk)
  c8 : cell? h (a.add 8) = some (Value.map (some mp1))
  c9 : cell? h (a.add 9) = some (Value.map (some mp2))
  c10 : cell? h (a.add 10) = some (toI c)
  f10 : frozen? h (a.add 10) = false
  m1 : MPg toI h mp1 gs
  m2 : MPg Value.bool h mp2 gn
  ne : mp1 ≠ mp2
  n1 : mp1 ≠ a.block
  n2 : mp2 ≠ a.block
  b0 : h0.size ≤ a.block
  b1 : h0.size ≤ mp1
  b2 : h0.size ≤ mp2
theorem WK.ext' (q : WK h0 hb h a x mp1 mp2 gs gn c) (e : Ext h h') : WK h0 hb h' a x mp1 mp2 gs gn c :=
  { q with
    ext := q.ext.trans e
    fr := q.fr.keep e (.inl rfl)
    cs := fun k hk => cell_keep e (q.cs k hk) (by simp)
    c8 := cell_keep e q.c8 (by simp)
    c9 := cell_keep e q.c9 (by simp)
    c10 := cell_keep e q.c10 (by simp)
    f10 := frozen_keep e (cell_lt q.c10) q.f10 (by simp)
    m1 := q.m1.keep e (by simp)
    m2 := q.m2.keep e (by simp) }
theorem WK.set1 (q : WK h0 hb h a x mp1 mp2 gs gn c) {g' : Int → Option Int} (m : MPg toI h' mp1 g') (k : Keep (some mp1) h h') : WK h0 hb h' a x mp1 mp2 g' gn c :=
  have nb : ∀ j, some (a.add j).block ≠ some mp1 := fun j e => by rw [addr_add_block] at e; exact q.n1 (Option.some.inj e).symm
  { q with
    ext := q.ext.fresh q.b1 k
    fr := q.fr.keep k (.inr (.inr (.inl rfl)))
    cs := fun j hj => cell_keep k (q.cs j hj) (nb j)
    c8 := cell_keep k q.c8 (nb 8)
    c9 := cell_keep k q.c9 (nb 9)
    c10 := cell_keep k q.c10 (nb 10)
    f10 := frozen_keep k (cell_lt q.c10) q.f10 (nb 10)
    m1 := m
    m2 := q.m2.keep k fun e => q.ne (Option.some.inj e).symm }
theorem WK.set2 (q : WK h0 hb h a x mp1 mp2 gs gn c) {g' : Int → Option Bool} (m : MPg Value.bool h' mp2 g') (k : Keep (some mp2) h h') : WK h0 hb h' a x mp1 mp2 gs g' c :=
  have nb : ∀ j, some (a.add j).block ≠ some mp2 := fun j e => by rw [addr_add_block] at e; exact q.n2 (Option.some.inj e).symm
  { q with
    ext := q.ext.fresh q.b2 k
    fr := q.fr.keep k (.inr (.inr (.inr rfl)))
    cs := fun j hj => cell_keep k (q.cs j hj) (nb j)
    c8 := cell_keep k q.c8 (nb 8)
    c9 := cell_keep k q.c9 (nb 9)
    c10 := cell_keep k q.c10 (nb 10)
    f10 := frozen_keep k (cell_lt q.c10) q.f10 (nb 10)
    m1 := q.m1.keep k fun e => q.ne (Option.some.inj e)
    m2 := m }
theorem WK.base (q : WK h0 hb h a x mp1 mp2 gs gn c) : WK h0 h h a x mp1 mp2 gs gn c := { q with fr := .refl }
end Go.Sh

namespace Go.Sh
open Go Go.Lift Go.Cla
variable {h0 hb h h' : Heap} {x : S8} {S : SS} {nx : Int} {a : Addr} {mp1 mp2 : Nat} {gs : Int → Option Int} {gn : Int → Option Bool} {c : Int}
theorem WK.ldS (q : WK h0 hb h a x mp1 mp2 gs gn c) {k : S8 → Prop} (K : k x) : loadS C_sl_sl_sl_sl_sl_sl_sl_i64 8 (a.add 0) h k := by
  refine ⟨x, ?_, K⟩
  have := cells?_mk (h := h) (a := a.add 0) (C_sl_sl_sl_sl_sl_sl_sl_i64 x) 0 (fun j hj => by
    rw [Nat.zero_add, addr_add_add, Nat.zero_add]
    exact q.cs j hj)
  exact this
theorem WK.setC (q : WK h0 hb h a x mp1 mp2 gs gn c) (c' : Int) : WK h0 hb (setCell h (a.add 10) (toI c')) a x mp1 mp2 gs gn c' := by
  have k := Keep.setCell h (a.add 10) (toI c')
  rw [addr_add_block] at k
  have ce : ∀ (j : Nat) {v : Value}, j ≠ 10 → cell? h (a.add j) = some v → cell? (setCell h (a.add 10) (toI c')) (a.add j) = some v := fun j v hj hv => by
    rw [cell_set_ne (.inr (.inl ?_))]
    · exact hv
    · rw [addr_add _ _ q.spot, addr_add _ _ q.spot]; simp only; omega
  exact { q with
    ext := q.ext.fresh q.b0 k
    fr := q.fr.keep k (.inr (.inl rfl))
    cs := fun j hj => ce j (by omega) (q.cs j hj)
    c8 := ce 8 (by decide) q.c8
    c9 := ce 9 (by decide) q.c9
    c10 := cell_set_same q.c10
    f10 := by rw [frozen_set]; exact q.f10
    m1 := q.m1.keep k fun e => q.n1 (Option.some.inj e)
    m2 := q.m2.keep k fun e => q.n2 (Option.some.inj e) }
theorem lput_spec {lit : Int} {Q : Unit → Heap → Prop} (q : WK h0 hb h a x mp1 mp2 gs gn c) (rd : SRd h0 x S nx) (hc : -1000000 ≤ c ∧ c ≤ 1000000)
    (K0 : (gn (trI lit)).getD false = true ∨ lvI S lit = 0 → ∀ h', WK h0 hb h' a x mp1 mp2 gs gn c → Q () h')
    (K1 : ¬ ((gn (trI lit)).getD false = true ∨ lvI S lit = 0) → ∀ h', WK h0 hb h' a x mp1 mp2 (fun j => if j = trI lit then some lit else gs j) (fun j => if j = trI lit then some true else gn j) (if lvI S lit = (S.hea.length : Int) then c + 1 else c) → Q () h') : learn_work_put (some a) lit h Q := by
  refine ltruth_spec ?_
  refine seq.cut (fun (b : Bool) h1 => WK h0 hb h1 a x mp1 mp2 gs gn c ∧ (b = true ↔ (gn (trI lit)).getD false = true ∨ lvI S lit = 0)) ?_ ?_
  · refine ⟨a, rfl, _, q.c9, q.m2.look ⟨fun g => ⟨q, ?_⟩, fun g => ?_⟩⟩
    · have g : (gn (trI lit)).getD false = true := g
      simp [g]
    · have g : (gn (trI lit)).getD false = false := g
      refine ⟨a, rfl, q.ldS (lat_spec (rd.ext q.ext) fun h1 e1 => ⟨q.ext' e1, ?_⟩)⟩
      rw [g]; simp
  rintro b h1 ⟨q1, hbb⟩
  refine ⟨fun g => K0 (hbb.1 g) h1 q1, fun g => ?_⟩
  have K1 := K1 (fun hh => by rw [hbb.2 hh] at g; cases g)
  refine ⟨a, rfl, _, q1.c8, a, rfl, _, q1.c9, ?_⟩
  refine q1.m1.ent fun h2 m2 k2 _ => ?_
  have q2 := q1.set1 m2 k2
  refine q2.m2.ent fun h3 m3 k3 _ => ?_
  have q3 := q2.set2 m3 k3
  refine ⟨a, rfl, q3.ldS ⟨a, rfl, x.2.2.2.2.2.2.1, ?_, ?_⟩⟩
  · rw [addr_add_add, Nat.zero_add]; exact q3.cs 6 (by decide)
  refine lat_spec (rd.ext q3.ext) fun h4 e4 => ?_
  have q4 := q3.ext' e4
  refine ⟨by rw [addr_add_add, Nat.zero_add]; exact q4.cs 6 (by decide), ?_⟩
  have hlen := rd.hea.len
  refine ⟨fun g4 => ?_, fun g4 => ?_⟩
  · have g4 : lvI S lit = (S.hea.length : Int) := by
      have : lvI S lit = ((x.2.2.2.2.2.2.1.len : Nat) : Int) := by simpa using g4
      rw [this, hlen]
    rw [if_pos g4] at K1
    refine ⟨a, rfl, c, q4.c10, a, rfl, ⟨_, q4.c10⟩, q4.f10, ?_⟩
    rw [w64 (by omega) (by omega)]
    exact K1 _ (q4.setC (c + 1))
  · have g4 : ¬ lvI S lit = (S.hea.length : Int) := by
      have : ¬ lvI S lit = ((x.2.2.2.2.2.2.1.len : Nat) : Int) := by simpa using g4
      rw [hlen] at this; exact this
    rw [if_neg g4] at K1
    exact K1 h4 q4
end Go.Sh

namespace Go.Sh
open Go Go.Lift Go.Cla
theorem lookup_out {α : Type} {f : List (Int × α)} {k : Int} (h : k ∉ f.map (·.1)) : f.lookup k = none := by
  cases hl : f.lookup k with
  | none => rfl
  | some v => exact absurd (List.mem_map_of_mem (f := (·.1)) (mem_lookup hl)) h
theorem lookup_remM {α : Type} {f : List (Int × α)} (hn : (f.map (·.1)).Nodup) (k j : Int) : (remM f k).lookup j = if j = k then none else f.lookup j := by
  induction f with
  | nil => simp [remM]
  | cons p r ih =>
    obtain ⟨a, b⟩ := p
    simp only [List.map_cons, List.nodup_cons] at hn
    have ih := ih hn.2
    simp only [remM]
    by_cases e : k = a
    · subst e
      simp only [beq_self_eq_true, if_true]
      by_cases e2 : j = k
      · subst e2; rw [if_pos rfl]; exact lookup_out hn.1
      · rw [if_neg e2]
        have : (j == k) = false := by simpa using e2
        simp only [List.lookup, this]
    · have e0 : (k == a) = false := by simpa using e
      simp only [e0, Bool.false_eq_true, if_false, List.lookup]
      by_cases e2 : j = a
      · subst e2
        have : ¬ j = k := fun h => e h.symm
        simp [this]
      · have : (j == a) = false := by simpa using e2
        simp only [this]
        exact ih
theorem MPg.del {α : Type} {toV : α → Value} {h : Heap} {mp : Nat} {g : Int → Option α} (p : MPg toV h mp g) {key : Int} {k : Heap → Prop} (K : ∀ h', MPg toV h' mp (fun j => if j = key then none else g j) → Keep (some mp) h h' → k h') : delM .i64 toV (some mp) key h k := by
  have hlt := p.lt
  obtain ⟨f, h1, h2⟩ := p
  have hn : (f.map (·.1)).Nodup := by
    obtain ⟨es, c, _, he⟩ := h1
    have := he.keys
    unfold vals at this
    rw [List.map_map] at this
    exact this
  refine ⟨mp, f, rfl, h1, fun es c he => K _ ⟨remM f key, ⟨es, c, by simp [hlt], he⟩, fun j => ?_⟩ ⟨by simp, fun b hb hne => by rw [Array.getElem?_setIfInBounds_ne (fun e => hne (by rw [e]))]⟩⟩
  rw [lookup_remM hn, h2]
end Go.Sh

namespace Go.Sh
open Go Go.Lift Go.Cla
variable {h0 hb h h' : Heap} {x : S8} {S : SS} {nx : Int} {a : Addr} {mp1 mp2 : Nat}
structure WS where
  gs : Int → Option Int
  gn : Int → Option Bool
  c : Int
open Classical in
noncomputable def putW (S : SS) (t : WS) (l : Int) : WS :=
  if (t.gn (trI l)).getD false = true ∨ lvI S l = 0 then t else ⟨fun j => if j = trI l then some l else t.gs j, fun j => if j = trI l then some true else t.gn j, if lvI S l = (S.hea.length : Int) then t.c + 1 else t.c⟩
abbrev WKt (h0 hb h : Heap) (a : Addr) (x : S8) (mp1 mp2 : Nat) (t : WS) : Prop := WK h0 hb h a x mp1 mp2 t.gs t.gn t.c
theorem lput_one {lit : Int} {t : WS} {Q : Unit → Heap → Prop} (q : WKt h0 hb h a x mp1 mp2 t) (rd : SRd h0 x S nx) (hc : -1000000 ≤ t.c ∧ t.c ≤ 1000000) (K : ∀ h', WKt h0 hb h' a x mp1 mp2 (putW S t lit) → Q () h') : learn_work_put (some a) lit h Q := by
  refine lput_spec q rd hc (fun hh h' q' => K h' ?_) (fun hh h' q' => K h' ?_)
  · unfold putW; rw [if_pos hh]; exact q'
  · unfold putW; rw [if_neg hh]; exact q'
end Go.Sh

namespace Go.Sh
open Go Go.Lift Go.Cla
variable {S : SS} {nx : Int}
structure AE where
  A : Nat → Bool
  E : Nat → Bool
def AE.add (S : SS) (st : AE) (v : Nat) : AE := if 0 < atI S.lev v then ⟨fun j => if j = v then true else st.A j, fun j => if j = v then true else st.E j⟩ else st
def AE.adds (S : SS) (st : AE) (vs : List Nat) : AE := vs.foldl (AE.add S) st
def AE.out (st : AE) (v : Nat) : AE := ⟨fun j => if j = v then false else st.A j, st.E⟩
def inH (S : SS) (st : AE) (i : Nat) : Bool := st.A (tr (tl S i)) && (atI S.lev (tr (tl S i)) == (S.hea.length : Int))
def cntH (S : SS) (st : AE) : Nat := (List.range S.tra.length).countP (inH S st)
def others (S : SS) (v : Nat) : List Nat := ((S.cl (atI S.rea v).toNat).lits.map tr).filter (· ≠ v)
def stepW (S : SS) (st : AE) (v : Nat) : AE := (st.out v).adds S (others S v)
def runW (S : SS) : Nat → AE → Option AE
  | 0, st => if cntH S st = 1 then some st else none
  | i + 1, st => if cntH S st = 1 then some st else if st.A (tr (tl S i)) then (if atI S.rea (tr (tl S i)) = -1 then none else runW S i (stepW S st (tr (tl S i)))) else runW S i st
theorem runW_one {st : AE} (h : cntH S st = 1) (i : Nat) : runW S i st = some st := by cases i <;> simp [runW, h]
structure InvW (S : SS) (i : Nat) (st : AE) : Prop where
  sub : ∀ v, st.A v = true → st.E v = true
  inn : ∀ v, st.E v = true → v < S.val.length ∧ 0 < atI S.lev v
  pos : ∀ q, q < S.tra.length → inH S st q = true → q < i
  one : 1 ≤ cntH S st
  old : ∀ v, st.E v = true → st.A v = true ∨ ∃ q, i ≤ q ∧ q < S.tra.length ∧ tr (tl S q) = v
theorem RightS.place (R : RightS S nx) {v : Nat} (hv : v < S.val.length) (h : atI S.lev v ≠ 0) : ∃ q, q < S.tra.length ∧ tr (tl S q) = v := by
  refine Classical.byContradiction fun hn => ?_
  have := R.fre v hv fun i hi e => hn ⟨i, hi, e⟩
  exact h this.2.1
theorem RightS.mono (R : RightS S nx) {q p : Nat} (h : q ≤ p) (hp : p < S.tra.length) : atI S.lev (tr (tl S q)) ≤ atI S.lev (tr (tl S p)) := by
  obtain ⟨k, hk, e1⟩ := (R.tra q (by omega)).lev
  obtain ⟨m, hm, e2⟩ := (R.tra p hp).lev
  rw [e1, e2]
  refine Int.ofNat_le.2 (Classical.byContradiction fun g => ?_)
  have g1 := hm.2.2 (by have := hk.1; omega)
  have g2 := hk.2.1 m (by omega)
  omega
theorem RightS.lev_le (R : RightS S nx) {p : Nat} (hp : p < S.tra.length) : 0 ≤ atI S.lev (tr (tl S p)) ∧ atI S.lev (tr (tl S p)) ≤ (S.hea.length : Int) := by
  obtain ⟨m, hm, e2⟩ := (R.tra p hp).lev
  rw [e2]
  have := hm.1
  omega
theorem RightS.lev_le' (R : RightS S nx) {v : Nat} (hv : v < S.val.length) : 0 ≤ atI S.lev v ∧ atI S.lev v ≤ (S.hea.length : Int) := by
  by_cases h : atI S.lev v = 0
  · omega
  · obtain ⟨q, hq, rfl⟩ := R.place hv h
    exact R.lev_le hq
theorem countP_one {p p' : Nat → Bool} {q : Nat} (h0 : p q = false) (h1 : p' q = true) (he : ∀ j, j ≠ q → p' j = p j) : ∀ m, (List.range m).countP p' = (List.range m).countP p + (if q < m then 1 else 0) := by
  intro m
  induction m with
  | zero => simp
  | succ m ih =>
    rw [List.range_succ, List.countP_append, List.countP_append, ih, List.countP_singleton, List.countP_singleton]
    by_cases e : m = q
    · subst e; rw [h0, h1]; simp
    · rw [he m e]
      have : (q < m + 1) ↔ q < m := by omega
      simp only [this]
      omega
theorem countP_mono {p p' : Nat → Bool} (h : ∀ j, p j = true → p' j = true) (m : Nat) : (List.range m).countP p ≤ (List.range m).countP p' := List.countP_mono_left fun x _ hx => h x hx
theorem cnt_pos {st : AE} (h : 1 ≤ cntH S st) : ∃ q, q < S.tra.length ∧ inH S st q = true := by
  unfold cntH at h
  obtain ⟨q, hq, hp⟩ := List.countP_pos_iff.1 h
  exact ⟨q, List.mem_range.1 hq, hp⟩
theorem add_A {st : AE} {v j : Nat} (h : (st.add S v).A j = true) : st.A j = true ∨ (j = v ∧ 0 < atI S.lev v) := by
  unfold AE.add at h
  split at h
  · rename_i g
    by_cases e : j = v
    · exact .inr ⟨e, g⟩
    · simp [e] at h; exact .inl h
  · exact .inl h
theorem add_E {st : AE} {v j : Nat} (h : (st.add S v).E j = true) : st.E j = true ∨ (j = v ∧ 0 < atI S.lev v) := by
  unfold AE.add at h
  split at h
  · rename_i g
    by_cases e : j = v
    · exact .inr ⟨e, g⟩
    · simp [e] at h; exact .inl h
  · exact .inl h
theorem add_up {st : AE} (v j : Nat) : (st.A j = true → (st.add S v).A j = true) ∧ (st.E j = true → (st.add S v).E j = true) := by
  unfold AE.add
  split
  · constructor <;> intro h <;> dsimp only <;> split <;> first | rfl | exact h
  · exact ⟨id, id⟩
theorem add_in {st : AE} {v : Nat} (h : 0 < atI S.lev v) : (st.add S v).A v = true ∧ (st.add S v).E v = true := by
  unfold AE.add; rw [if_pos h]; simp
theorem adds_A {vs : List Nat} : ∀ {st : AE} {j : Nat}, (st.adds S vs).A j = true → st.A j = true ∨ (j ∈ vs ∧ 0 < atI S.lev j) := by
  induction vs with
  | nil => intro st j h; exact .inl h
  | cons v r ih =>
    intro st j h
    rcases ih (st := st.add S v) h with g | g
    · rcases add_A g with g | ⟨rfl, g⟩
      · exact .inl g
      · exact .inr ⟨by simp, g⟩
    · exact .inr ⟨by simp [g.1], g.2⟩
theorem adds_E {vs : List Nat} : ∀ {st : AE} {j : Nat}, (st.adds S vs).E j = true → st.E j = true ∨ (j ∈ vs ∧ 0 < atI S.lev j) := by
  induction vs with
  | nil => intro st j h; exact .inl h
  | cons v r ih =>
    intro st j h
    rcases ih (st := st.add S v) h with g | g
    · rcases add_E g with g | ⟨rfl, g⟩
      · exact .inl g
      · exact .inr ⟨by simp, g⟩
    · exact .inr ⟨by simp [g.1], g.2⟩
theorem adds_up {vs : List Nat} : ∀ {st : AE} (j : Nat), (st.A j = true → (st.adds S vs).A j = true) ∧ (st.E j = true → (st.adds S vs).E j = true) := by
  induction vs with
  | nil => intro st j; exact ⟨id, id⟩
  | cons v r ih =>
    intro st j
    have h1 := add_up (S := S) (st := st) v j
    have h2 := ih (st := st.add S v) j
    exact ⟨fun h => h2.1 (h1.1 h), fun h => h2.2 (h1.2 h)⟩
theorem adds_AE {vs : List Nat} : ∀ {st : AE} {j : Nat}, (st.adds S vs).E j = true → st.E j = true ∨ (st.adds S vs).A j = true := by
  induction vs with
  | nil => intro st j h; exact .inl h
  | cons v r ih =>
    intro st j h
    rcases ih (st := st.add S v) h with g | g
    · rcases add_E g with g | ⟨rfl, g⟩
      · exact .inl g
      · exact .inr ((adds_up (vs := r) j).1 (add_in g).1)
    · exact .inr g
theorem inH_mono {st st' : AE} (h : ∀ v, st.A v = true → st'.A v = true) {q : Nat} (hq : inH S st q = true) : inH S st' q = true := by
  unfold inH at *
  simp only [Bool.and_eq_true] at *
  exact ⟨h _ hq.1, hq.2⟩
theorem cnt_out (R : RightS S nx) {st : AE} {i : Nat} (hi : i < S.tra.length) (h : inH S st i = true) : cntH S (st.out (tr (tl S i))) + 1 = cntH S st := by
  unfold cntH
  have hne : ∀ j, j < S.tra.length → j ≠ i → tr (tl S j) ≠ tr (tl S i) := fun j hj hne e => hne (trk_one R.tra hj hi e)
  have h0 : inH S (st.out (tr (tl S i))) i = false := by unfold inH AE.out; simp
  have e1 : (List.range S.tra.length).countP (inH S (st.out (tr (tl S i)))) = (List.range S.tra.length).countP (fun j => if j = i then false else inH S st j) := by
    refine List.countP_congr fun j hj => ?_
    have hj := List.mem_range.1 hj
    by_cases e : j = i
    · subst e; simp [h0]
    · have := hne j hj e
      simp only [e, if_false]
      unfold inH AE.out
      simp [this]
  rw [e1, countP_one (p := fun j => if j = i then false else inH S st j) (p' := inH S st) (q := i) (by simp) h (fun j hj => by simp [hj])]
  simp [hi]
theorem cnt_add (R : RightS S nx) {st : AE} {v : Nat} (hv : v < S.val.length) (hl : 0 < atI S.lev v) (hn : st.A v = false) : cntH S (st.add S v) = cntH S st + (if atI S.lev v = (S.hea.length : Int) then 1 else 0) := by
  obtain ⟨q, hq, hqv⟩ := R.place hv (by omega)
  have hAdd : st.add S v = ⟨fun j => if j = v then true else st.A j, fun j => if j = v then true else st.E j⟩ := by unfold AE.add; rw [if_pos hl]
  have hin : ∀ j, j < S.tra.length → (tr (tl S j) = v ↔ j = q) := fun j hj => ⟨fun e => trk_one R.tra hj hq (e.trans hqv.symm), fun e => by rw [e, hqv]⟩
  unfold cntH
  by_cases hH : atI S.lev v = (S.hea.length : Int)
  · rw [if_pos hH]
    have e1 : (List.range S.tra.length).countP (inH S (st.add S v)) = (List.range S.tra.length).countP (fun j => if j = q then true else inH S st j) := by
      refine List.countP_congr fun j hj => ?_
      have hj := List.mem_range.1 hj
      rw [hAdd]
      unfold inH
      by_cases e : j = q
      · subst e; simp [hqv, hH]
      · have : tr (tl S j) ≠ v := fun g => e ((hin j hj).1 g)
        simp [e, this]
    rw [e1, countP_one (p := inH S st) (p' := fun j => if j = q then true else inH S st j) (q := q) (by unfold inH; rw [hqv, hn]; rfl) (by simp) (fun j hj => by simp [hj])]
    simp [hq]
  · rw [if_neg hH]
    refine List.countP_congr fun j hj => ?_
    rw [hAdd]
    unfold inH
    by_cases e : tr (tl S j) = v
    · simp [e, hH]
    · simp [e]
theorem InvW.top (R : RightS S nx) {i : Nat} {st : AE} (I : InvW S (i + 1) st) (hi : i < S.tra.length) (hA : st.A (tr (tl S i)) = true) : inH S st i = true := by
  obtain ⟨q, hq, hp⟩ := cnt_pos I.one
  have h1 := I.pos q hq hp
  have h2 := R.mono (q := q) (p := i) (by omega) hi
  have h3 := R.lev_le hi
  unfold inH at hp ⊢
  simp only [Bool.and_eq_true, beq_iff_eq] at hp ⊢
  exact ⟨hA, by omega⟩
theorem InvW.skip {i : Nat} {st : AE} (I : InvW S (i + 1) st) (hA : st.A (tr (tl S i)) = false) : InvW S i st := by
  refine ⟨I.sub, I.inn, fun q hq hp => ?_, I.one, fun v hv => (I.old v hv).imp id fun ⟨q, h1, h2, h3⟩ => ⟨q, by omega, h2, h3⟩⟩
  have h1 := I.pos q hq hp
  by_cases e : q = i
  · subst e; unfold inH at hp; rw [hA] at hp; cases hp
  · omega
theorem RightS.oth (R : RightS S nx) {i : Nat} (hi : i < S.tra.length) (hr : atI S.rea (tr (tl S i)) ≠ -1) : ∃ c : Nat, atI S.rea (tr (tl S i)) = (c : Int) ∧ c < S.cls.length ∧ others S (tr (tl S i)) = ((S.cl c).lits.map tr).filter (· ≠ tr (tl S i)) ∧
    (∀ m ∈ (S.cl c).lits, There S.val.length m ∧ (tr m ≠ tr (tl S i) → (∃ j, j < i ∧ tr (tl S j) = tr m) ∧ vl S.val m = -1)) := by
  rcases R.rea i hi with h | ⟨c, h1, h2, h3, h4⟩
  · exact absurd h hr
  · refine ⟨c, h1, h2, by unfold others; rw [h1]; rfl, fun m hm => ⟨(R.cls c h2).2.1 m hm, fun hne => h4 m hm fun e => hne (by rw [e])⟩⟩
theorem InvW.step (R : RightS S nx) {i : Nat} {st : AE} (I : InvW S (i + 1) st) (hi : i < S.tra.length) (hA : st.A (tr (tl S i)) = true) (hc : cntH S st ≠ 1) (hr : atI S.rea (tr (tl S i)) ≠ -1) : InvW S i (stepW S st (tr (tl S i))) := by
  obtain ⟨c, h1, h2, h3, h4⟩ := R.oth hi hr
  have hin : ∀ v, v ∈ others S (tr (tl S i)) → v ≠ tr (tl S i) ∧ v < S.val.length ∧ ∃ j, j < i ∧ tr (tl S j) = v := by
    intro v hv
    rw [h3] at hv
    obtain ⟨hv1, hv2⟩ := List.mem_filter.1 hv
    obtain ⟨m, hm, rfl⟩ := List.mem_map.1 hv1
    have hv2 : tr m ≠ tr (tl S i) := by simpa using hv2
    exact ⟨hv2, (h4 m hm).1.tr, ((h4 m hm).2 hv2).1⟩
  have hT := I.top R hi hA
  have hco := cnt_out R hi hT
  have hup : ∀ v, (st.out (tr (tl S i))).A v = true → (stepW S st (tr (tl S i))).A v = true := fun v => (adds_up v).1
  refine ⟨fun v hv => ?_, fun v hv => ?_, fun q hq hp => ?_, ?_, fun v hv => ?_⟩
  · rcases adds_A hv with g | g
    · refine (adds_up v).2 ?_
      unfold AE.out at g
      by_cases e : v = tr (tl S i)
      · simp [e] at g
      · simp [e] at g; exact I.sub v g
    · have : ∀ (vs : List Nat) (st : AE), v ∈ vs → (st.adds S vs).E v = true := by
        intro vs
        induction vs with
        | nil => intro st h; cases h
        | cons x r ih =>
          intro st h
          by_cases hr : v ∈ r
          · exact ih _ hr
          · have : v = x := by simpa [hr] using h
            subst this
            exact (adds_up (vs := r) v).2 (add_in g.2).2
      exact this _ _ g.1
  · rcases adds_E hv with g | g
    · exact I.inn v g
    · exact ⟨(hin v g.1).2.1, g.2⟩
  · unfold inH at hp
    simp only [Bool.and_eq_true, beq_iff_eq] at hp
    rcases adds_A hp.1 with g | g
    · unfold AE.out at g
      by_cases e : tr (tl S q) = tr (tl S i)
      · simp [e] at g
      · simp [e] at g
        have := I.pos q hq (by unfold inH; simp only [Bool.and_eq_true, beq_iff_eq]; exact ⟨g, hp.2⟩)
        have hne : q ≠ i := fun h => e (by rw [h])
        omega
    · obtain ⟨_, _, j, hj, e⟩ := hin _ g.1
      have := trk_one R.tra (by omega : j < S.tra.length) hq e
      omega
  · have : cntH S (st.out (tr (tl S i))) ≤ cntH S (stepW S st (tr (tl S i))) := countP_mono (fun j hj => inH_mono hup hj) _
    have := I.one
    omega
  · rcases adds_AE hv with g | g
    · rcases I.old v g with g2 | ⟨q, g1, g2, g3⟩
      · by_cases e : v = tr (tl S i)
        · exact .inr ⟨i, Nat.le_refl _, hi, e.symm⟩
        · refine .inl (hup v ?_)
          unfold AE.out; simp [e, g2]
      · exact .inr ⟨q, by omega, g2, g3⟩
    · exact .inl g
end Go.Sh

namespace Go.Sh
open Go Go.Lift Go.Cla
variable {h0 hb h h' : Heap} {x : S8} {S : SS} {nx : Int} {a : Addr} {mp1 mp2 : Nat}
def nl (S : SS) (v : Nat) : Int := -(atI S.val v) * ((v : Int) + 1)
theorem nl_of {l : Int} (hv : vl S.val l = -1) : l = nl S (tr l) := by
  have th := vl_there (V := S.val) (l := l) (by omega)
  unfold vl at hv
  rw [if_pos th] at hv
  have hl := th.1
  have hs := sg_sq l
  unfold nl
  have e1 : atI S.val (tr l) = - sg l := by
    have : atI S.val (tr l) * sg l * sg l = -1 * sg l := by rw [hv]
    rw [Int.mul_assoc, hs] at this
    omega
  rw [e1]
  unfold sg tr
  split <;> omega
structure MtW (S : SS) (t : WS) (st : AE) : Prop where
  gs : ∀ k : Int, t.gs k = if 0 ≤ k ∧ st.A k.toNat = true then some (nl S k.toNat) else none
  gn : ∀ k : Int, t.gn k = if 0 ≤ k ∧ st.E k.toNat = true then some true else none
  c : t.c = (cntH S st : Int)
theorem lvI_there (R : RightS S nx) {l : Int} (hl : There S.val.length l) (hn : S.val.length ≤ 1048576) : lvI S l = atI S.lev (tr l) := by
  have e := trI_there hl hn
  have := hl.tr
  unfold lvI
  rw [e, if_pos ⟨hl.1, by omega, by rw [R.llen]; omega⟩]
  rfl
theorem adds_app {st : AE} {vs us : List Nat} : st.adds S (vs ++ us) = (st.adds S vs).adds S us := by unfold AE.adds; rw [List.foldl_append]
theorem adds_sub {vs : List Nat} : ∀ {st : AE}, (∀ v, st.A v = true → st.E v = true) → ∀ v, (st.adds S vs).A v = true → (st.adds S vs).E v = true := by
  induction vs with
  | nil => intro st h; exact h
  | cons x r ih =>
    intro st h
    refine ih (st := st.add S x) fun v hv => ?_
    rcases add_A hv with g | ⟨rfl, g⟩
    · exact (add_up x v).2 (h v g)
    · exact (add_in g).2
theorem putW_mt (R : RightS S nx) (hn : S.val.length ≤ 1048576) {t : WS} {st : AE} (m : MtW S t st) {l : Int} (hv : vl S.val l = -1) (hE : st.E (tr l) = true → st.A (tr l) = true) (hs : st.A (tr l) = true → st.E (tr l) = true) : MtW S (putW S t l) (st.add S (tr l)) := by
  have th := vl_there (V := S.val) (l := l) (by omega)
  have e1 := trI_there th hn
  have e2 := lvI_there R th hn
  have e3 := R.lev_le' th.tr
  have e4 : (t.gn (trI l)).getD false = st.E (tr l) := by
    rw [m.gn, e1]
    cases hE : st.E (tr l) <;> simp [hE]
  by_cases hl : atI S.lev (tr l) = 0
  · unfold putW
    rw [if_pos (.inr (by rw [e2]; exact hl))]
    unfold AE.add
    rw [if_neg (by omega)]
    exact m
  have hl2 : 0 < atI S.lev (tr l) := by omega
  cases hEv : st.E (tr l)
  · have hA : st.A (tr l) = false := by
      cases hA : st.A (tr l)
      · rfl
      · rw [hs hA] at hEv; cases hEv
    have hcn := cnt_add R th.tr hl2 hA
    unfold putW
    rw [if_neg (by rw [e4, e2, hEv]; simp [hl])]
    have hadd : st.add S (tr l) = ⟨fun j => if j = tr l then true else st.A j, fun j => if j = tr l then true else st.E j⟩ := by unfold AE.add; rw [if_pos hl2]
    refine ⟨fun k => ?_, fun k => ?_, ?_⟩
    · rw [hadd]
      dsimp only
      rw [e1]
      by_cases e : k = (tr l : Int)
      · subst e; simp [← nl_of hv]
      · rw [if_neg e, m.gs]
        by_cases h0 : 0 ≤ k
        · have : k.toNat ≠ tr l := by omega
          simp [h0, this]
        · simp [h0]
    · rw [hadd]
      dsimp only
      rw [e1]
      by_cases e : k = (tr l : Int)
      · subst e; simp
      · rw [if_neg e, m.gn]
        by_cases h0 : 0 ≤ k
        · have : k.toNat ≠ tr l := by omega
          simp [h0, this]
        · simp [h0]
    · dsimp only
      rw [hcn, e2, m.c]
      split <;> simp
  · have hA := hE hEv
    unfold putW
    rw [if_pos (.inl (by rw [e4]; exact hEv))]
    have : st.add S (tr l) = st := by
      unfold AE.add
      rw [if_pos hl2]
      cases st with
      | mk A E =>
        congr 1 <;> funext j
        · by_cases e : j = tr l
          · subst e; simpa using hA.symm
          · simp [e]
        · by_cases e : j = tr l
          · subst e; simpa using hEv.symm
          · simp [e]
    rw [this]
    exact m
theorem cnt_le (st : AE) : cntH S st ≤ S.tra.length := by
  unfold cntH
  have := List.countP_le_length (l := List.range S.tra.length) (p := inH S st)
  simpa using this
theorem ltake_spec {i : Nat} {t : WS} {st : AE} {Q : Bool → Heap → Prop} (q : WKt h0 hb h a x mp1 mp2 t) (rd : SRd h0 x S nx) (R : RightS S nx) (f : Few8 S) (m : MtW S t st) (I : InvW S (i + 1) st) (hi : i < S.tra.length) (hA : st.A (tr (tl S i)) = true) (hc : cntH S st ≠ 1)
    (K0 : atI S.rea (tr (tl S i)) = -1 → Q false h)
    (K1 : atI S.rea (tr (tl S i)) ≠ -1 → ∀ h' t', WKt h0 hb h' a x mp1 mp2 t' → MtW S t' (stepW S st (tr (tl S i))) → Q true h') : learn_work_take (some a) (tr (tl S i) : Int) h Q := by
  have hn : S.val.length ≤ 1048576 := by have := f.v; omega
  have hvn := (R.tra i hi).th.tr
  have hft := f.t
  have hv2 := f.v
  refine ⟨a, rfl, x.2.2.2.2.1, by rw [addr_add_add, Nat.zero_add]; exact q.cs 4 (by decide), ?_⟩
  refine RJ.ldE rd.rea q.ext (j := tr (tl S i)) rfl (by rw [R.rlen]; exact hvn) ?_
  refine ⟨fun g => K0 (by simpa using g), fun g => ?_⟩
  have hr : atI S.rea (tr (tl S i)) ≠ -1 := by simpa using g
  obtain ⟨cn, h1, h2, h3, h4⟩ := R.oth hi hr
  have hin := I.top R hi hA
  have hco := cnt_out R hi hin
  have hcl := cnt_le (S := S) st
  refine ⟨a, rfl, _, q.c8, ?_⟩
  refine q.m1.del fun h1' m1 k1 => ?_
  have q1 := q.set1 m1 k1
  refine ⟨a, rfl, _, q1.c10, a, rfl, ⟨_, q1.c10⟩, q1.f10, ?_⟩
  have mc := m.c
  rw [w64 (by omega) (by omega)]
  have q2 := q1.setC (t.c - 1)
  refine ⟨a, rfl, x.1, by rw [addr_add_add, Nat.zero_add]; exact q2.cs 0 (by decide), ?_⟩
  rw [h1]
  refine rd.clE q2.ext rfl h2 fun s hs => ?_
  have hsl := hs.len
  have hf := f.l cn
  generalize hh2 : setCell h1' (a.add 10) (toI (t.c - 1)) = h2' at *
  have m2 : MtW S ⟨fun j => if j = (tr (tl S i) : Int) then none else t.gs j, t.gn, t.c - 1⟩ (st.out (tr (tl S i))) := by
    refine ⟨fun k => ?_, m.gn, ?_⟩
    · dsimp only
      by_cases e : k = (tr (tl S i) : Int)
      · subst e; simp [AE.out]
      · rw [if_neg e, m.gs]
        unfold AE.out
        by_cases h0 : 0 ≤ k
        · have : k.toNat ≠ tr (tl S i) := by omega
          simp [h0, this]
        · simp [h0]
    · dsimp only; omega
  generalize hL : (S.cl cn).lits = L at *
  refine loop.inv (fun (s0 : Int) hh => ∃ (k : Nat) (t' : WS), s0 = (k : Int) ∧ k ≤ L.length ∧ WKt h0 hb hh a x mp1 mp2 t' ∧ MtW S t' ((st.out (tr (tl S i))).adds S (((L.take k).map tr).filter (· ≠ tr (tl S i))))) (fun s0 _ => L.length - s0.toNat) ⟨0, _, rfl, Nat.zero_le _, q2, by simpa [AE.adds] using m2⟩ ?_
  rintro _ h3' ⟨k, t', rfl, hk, q3, m3⟩
  refine ⟨fun g => ?_, fun g => ?_⟩
  · have g := of_decide_eq_true g
    have hk' : k < L.length := by omega
    have ek : L.take (k + 1) = L.take k ++ [L[k]] := List.take_succ_eq_append_getElem hk'
    refine seq.cut (fun _ hh => ∃ t', WKt h0 hb hh a x mp1 mp2 t' ∧ MtW S t' ((st.out (tr (tl S i))).adds S (((L.take (k + 1)).map tr).filter (· ≠ tr (tl S i))))) ?_ ?_
    · refine RJ.ldE hs q3.ext (j := k) rfl hk' ?_
      rw [show atI L k = L[k] from at_get hk']
      generalize hlk : L[k] = l at *
      have hmem : l ∈ L := by rw [← hlk]; exact List.getElem_mem hk'
      obtain ⟨th, hne⟩ := h4 l hmem
      refine ltruth_spec ?_
      rw [trI_there th hn]
      refine ⟨fun g2 => ?_, fun g2 => ?_⟩
      · have g2 : tr l ≠ tr (tl S i) := fun e => by rw [e] at g2; simp at g2
        obtain ⟨⟨j, hj, ej⟩, hv⟩ := hne g2
        refine lput_one q3 rd (by have := m3.c; have := cnt_le (S := S) ((st.out (tr (tl S i))).adds S (((L.take k).map tr).filter (· ≠ tr (tl S i)))); omega) fun h5 q5 => ⟨_, q5, ?_⟩
        rw [ek, List.map_append, List.filter_append, adds_app]
        have : ([l].map tr).filter (· ≠ tr (tl S i)) = [tr l] := by simp [g2]
        rw [this]
        refine putW_mt R hn m3 hv (fun hE => ?_) (adds_sub (fun v hv => ?_) _)
        · rcases adds_AE hE with g3 | g3
          · refine (adds_up _).1 ?_
            rcases I.old _ g3 with g4 | ⟨p, p1, p2, p3⟩
            · unfold AE.out; simp [g2, g4]
            · have := trk_one R.tra (by omega : j < S.tra.length) p2 (ej.trans p3.symm)
              omega
          · exact g3
        · unfold AE.out at hv ⊢
          by_cases e : v = tr (tl S i)
          · simp [e] at hv
          · simp [e] at hv; exact I.sub v hv
      · have g2 : tr l = tr (tl S i) := by
          have : ((tr l : Nat) : Int) = (tr (tl S i) : Nat) := by simpa using g2
          omega
        refine ⟨t', q3, ?_⟩
        rw [ek, List.map_append, List.filter_append]
        have : ([l].map tr).filter (· ≠ tr (tl S i)) = [] := by simp [g2]
        rw [this, List.append_nil]
        exact m3
    · rintro _ h5 ⟨t5, q5, m5⟩
      rw [w64 (by omega) (by omega)]
      exact ⟨⟨k + 1, t5, by omega, by omega, q5, m5⟩, by omega⟩
  · have g := of_decide_eq_false g
    have : k = L.length := by omega
    subst this
    refine K1 hr h3' t' q3 ?_
    unfold stepW
    rw [h3]
    rw [List.take_length] at m3
    exact m3
end Go.Sh

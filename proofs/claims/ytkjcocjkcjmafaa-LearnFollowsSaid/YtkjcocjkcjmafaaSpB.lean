/-
  Laws that the proof of this claim's statement leans on, each proved under the conditions that it states.
-/
import Derived.Test.YtkjcocjkcjmafaaSpA
set_option linter.unusedVariables false
set_option linter.unusedSimpArgs false
namespace Go.Sh
open Go Go.Lift Go.Cla
variable {h h' : Heap} {p : Addr} {x : Nm → Sl} {vs : Nm → List Value} {S : SS} {n : Nat}
def MPg {α : Type} (toV : α → Value) (h : Heap) (mp : Nat) (g : Int → Option α) : Prop := ∃ f : List (Int × α), mapEs .i64 h (some mp) (vals toV f) ∧ ∀ k, f.lookup k = g k
section
variable {α : Type} {toV : α → Value} {mp : Nat} {g : Int → Option α}
theorem MPg.keep {o : Option Nat} (p : MPg toV h mp g) (k : Keep o h h') (hne : some mp ≠ o) : MPg toV h' mp g := by
  obtain ⟨f, ⟨es, c, h1, h2⟩, h3⟩ := p
  exact ⟨f, ⟨es, c, by rw [k.same mp (Array.getElem?_eq_some_iff.1 h1).1 hne]; exact h1, h2⟩, h3⟩
theorem MPg.lt (p : MPg toV h mp g) : mp < h.size := by
  obtain ⟨f, ⟨es, c, h1, h2⟩, h3⟩ := p
  exact (Array.getElem?_eq_some_iff.1 h1).1
theorem MPg.look (p : MPg toV h mp g) {key : Int} {zero : α} {k : α × Bool → Prop} (K : k ((g key).getD zero, (g key).isSome)) : lookM .i64 toV zero (some mp) key h k := by
  obtain ⟨f, h1, h2⟩ := p
  refine ⟨f, _, h1, rfl, ?_⟩
  rw [h2 key]
  cases hg : g key with
  | none => rw [hg] at K; exact K
  | some v => rw [hg] at K; exact K
theorem MPg.set (p : MPg toV h mp g) {key : Int} {v : α} {k : Heap → Prop} (K : ∀ h', MPg toV h' mp (fun j => if j = key then some v else g j) → Keep (some mp) h h' → h'.size = h.size → k h') : setM .i64 toV (some mp) key v h k := by
  have hlt := p.lt
  obtain ⟨f, h1, h2⟩ := p
  refine ⟨mp, f, rfl, h1, fun es c he => K _ ⟨updM f key v, ⟨es, c, by simp [hlt], he⟩, fun j => ?_⟩ ⟨by simp, fun b hb hne => by rw [Array.getElem?_setIfInBounds_ne (fun e => hne (by rw [e]))]⟩ (by simp)⟩
  rw [lookup_updM, h2]
  by_cases e : j = key
  · subst e; simp
  · have : (j == key) = false := by simpa using e
    rw [this]; simp [e]
theorem MPg.new {k : Option Nat → Heap → Prop} (K : ∀ h', MPg toV h' h.size (fun _ => none) → Ext h h' → h'.size = h.size + 1 → k (some h.size) h') : newM h k :=
  K _ ⟨[], ⟨#[], 0, by simp, Ents.nil⟩, fun _ => rfl⟩ (Ext.push _ _) (by simp)
theorem MPg.same {g' : Int → Option α} (p : MPg toV h mp g) (e : ∀ k, g k = g' k) : MPg toV h mp g' := by
  obtain ⟨f, h1, h2⟩ := p
  exact ⟨f, h1, fun k => (h2 k).trans (e k)⟩
end
def FitsL (n : Nat) (L : List Int) : Prop := (∀ l ∈ L, There n l) ∧ (L.map tr).Nodup ∧ 2 ≤ L.length
theorem fits_spec {s : Sl} {L : List Int} {Q : Bool → Heap → Prop} (q : SM h p x vs S) (hn : S.val.length ≤ 1048576) (hr : RJ h s L) (hl : L.length ≤ 1048576) (K : ∀ b h', (b = true ↔ FitsL S.val.length L) → Ext h h' → Q b h') : clause_fits (some p) s h Q := by
  refine MPg.new (toV := Value.bool) fun h1 m1 e1 _ => ?_
  have hsl := hr.len
  refine loop.inv (fun (s0 : Int) hh => Ext h hh ∧ ∃ i : Nat, s0 = (i : Int) ∧ i ≤ L.length ∧ (∀ l ∈ L.take i, There S.val.length l) ∧ ((L.take i).map tr).Nodup ∧ ∃ g, MPg Value.bool hh h.size g ∧ (∀ k : Int, ((∃ l ∈ L.take i, (tr l : Int) = k) → g k = some true) ∧ ((¬ ∃ l ∈ L.take i, (tr l : Int) = k) → g k = none))) (fun s0 _ => L.length - s0.toNat)
    ⟨e1, 0, rfl, Nat.zero_le _, by simp, by simp, _, m1, fun k => ⟨by simp, by simp⟩⟩ ?_
  rintro s0 hh ⟨ee, i, rfl, hi, hth, hnd, g, mg, hg⟩
  dsimp only
  rw [hsl]
  refine ⟨fun hlt => ?_, fun hge => ?_⟩
  · simp only [decide_eq_true_eq] at hlt
    have hi' : i < L.length := by omega
    have hmem := List.getElem_mem hi'
    refine RJ.ld (R.ext hr ee) (j := i) rfl hi' ?_
    rw [at_get hi']
    have htk := List.take_succ_eq_append_getElem hi'
    generalize hl : L[i] = l at *
    refine seq.cut (fun (b : Bool) h2 => h2 = hh ∧ (b = false ↔ There S.val.length l ∧ tr l ∉ (L.take i).map tr)) ?_ ?_
    · refine (q.ext ee).there hn ⟨fun hno => ⟨rfl, ?_⟩, fun hy => ?_⟩
      · have : ¬ There S.val.length l := by simpa using hno
        simp [this]
      · have hl' : There S.val.length l := by simpa using hy
        refine truth_spec hl' hn (mg.look ⟨rfl, ?_⟩)
        have iff : tr l ∉ (L.take i).map tr ↔ ¬ ∃ m ∈ L.take i, (tr m : Int) = (tr l : Int) := by
          rw [List.mem_map]
          constructor
          · rintro h1 ⟨m, hm, e⟩; exact h1 ⟨m, hm, by omega⟩
          · rintro h1 ⟨m, hm, e⟩; exact h1 ⟨m, hm, by omega⟩
        rw [iff]
        by_cases hex : ∃ m ∈ L.take i, (tr m : Int) = (tr l : Int)
        · rw [(hg _).1 hex]; simp [hex]
        · rw [(hg _).2 hex]; simp [hex, hl']
    · rintro b h2 ⟨rfl, hb⟩
      refine ⟨fun hbt => ?_, fun hbf => ?_⟩
      · refine K false h2 ⟨fun h => by simp at h, fun hf => ?_⟩ ee
        exfalso
        have : b = false := hb.2 ⟨hf.1 l hmem, fun hm => ?_⟩
        · rw [this] at hbt; cases hbt
        · have h1 : ((L.take (i + 1)).map tr).Nodup := (List.Sublist.map tr (List.take_sublist _ _)).nodup hf.2.1
          rw [htk, List.map_append, List.nodup_append] at h1
          exact h1.2.2 _ hm _ (by simp) rfl
      · obtain ⟨hl1, hl2⟩ := hb.1 hbf
        refine truth_spec hl1 hn (mg.set fun h3 m3 k3 _ => ?_)
        rw [w64 (by omega) (by omega)]
        refine ⟨⟨ee.fresh (Nat.le_refl _) k3, i + 1, by omega, by omega, ?_, ?_, _, m3, fun k => ?_⟩, by omega⟩
        · rw [htk]
          intro m hm
          rcases List.mem_append.1 hm with hm | hm
          · exact hth m hm
          · simp only [List.mem_singleton] at hm; rw [hm]; exact hl1
        · rw [htk, List.map_append, List.nodup_append]
          refine ⟨hnd, by simp, fun a ha b hb e => ?_⟩
          simp only [List.map_cons, List.map_nil, List.mem_singleton] at hb
          subst hb; subst e
          exact hl2 ha
        · rw [htk]
          by_cases e : k = (tr l : Int)
          · subst e
            refine ⟨fun _ => by simp, fun hno => absurd ⟨l, by simp, rfl⟩ hno⟩
          · have iff : (∃ m ∈ L.take i ++ [l], (tr m : Int) = k) ↔ ∃ m ∈ L.take i, (tr m : Int) = k := by
              constructor
              · rintro ⟨m, hm, h1⟩
                rcases List.mem_append.1 hm with hm | hm
                · exact ⟨m, hm, h1⟩
                · simp only [List.mem_singleton] at hm; subst hm; exact absurd h1.symm e
              · rintro ⟨m, hm, h1⟩; exact ⟨m, List.mem_append_left _ hm, h1⟩
            rw [iff, if_neg e]
            exact hg k
  · simp only [decide_eq_false_iff_not] at hge
    have : i = L.length := by omega
    subst this
    rw [List.take_length] at hth hnd
    refine K _ hh ?_ ee
    rw [decide_eq_true_eq]
    unfold FitsL
    constructor
    · intro h; exact ⟨hth, hnd, by omega⟩
    · intro h; have := h.2.2; omega
theorem cloneI_spec {s : Sl} {xs : List Int} {Q : Sl → Heap → Prop} (hr : RJ h s xs) (hl : xs.length ≤ 1073741824) (K : ∀ r h', Own toI h.size h' r xs → Ext h h' → Q r h') : slices_Clone_int_int s h Q := by
  refine ⟨fun hn => ?_, fun hn => ?_⟩
  · have : xs = [] := by
      cases xs with
      | nil => rfl
      | cons x l =>
        obtain ⟨a, ha, _⟩ := hr.get (i := 0) (by simp)
        rw [ha] at hn; simp at hn
    subst this
    exact K Sl.nil h Own.nil (Keep.refl _ _)
  · intro T
    have e1 : Ext h (h.push (.cells ([] : List Value).toArray T (0, 0))) := Ext.push _ _
    have ho := Own.new (toV := toI) (h := h) (ys := []) (cs := []) (T := T) rfl
    have hs1 : (h.push (.cells ([] : List Value).toArray T (0, 0)) : Heap).size = h.size + 1 := by simp
    generalize (h.push (.cells ([] : List Value).toArray T (0, 0)) : Heap) = h1 at *
    refine Own.append (bytes := 8) (B := h.size) (xs := []) ho (by omega) (R.ext hr e1) (fun _ => rfl) (by simp; omega) fun r h2 o2 k2 b2 => ?_
    have e2 : Ext h h2 := ⟨by have := k2.size; omega, fun b hb _ => (k2.same b (by omega) (fun e => by have := (ho.lt e.symm).1; omega)).trans (e1.same b hb (by simp))⟩
    exact K r h2 (by simpa using o2) e2
def linkS (S : SS) (j : Nat) : SS := addW (addW S (wch (atI (S.cl j).lits 0)) j) (wch (atI (S.cl j).lits 1)) j
theorem R.sub {α : Type} {toV : α → Value} {s s' : Sl} {xs : List α} {k : Nat} (hr : R toV h s xs) (ha : s'.a = s.a) (hl : s'.len = k) (hk : k ≤ xs.length) (hc : s'.len ≤ s'.cap) : R toV h s' (xs.take k) := by
  cases hs : s.a with
  | none =>
    have : xs = [] := by
      cases xs with
      | nil => rfl
      | cons y ys =>
        obtain ⟨a, h1, _⟩ := hr.get (i := 0) (by simp)
        rw [hs] at h1; cases h1
    subst this
    simp at hk
    subst hk
    simp only [List.take_nil]
    exact ⟨by simpa using hl, hc, by rw [hl]; cases s'.a <;> rfl⟩
  | some a =>
    refine R.mk' (by simp; omega) hc a (by rw [ha, hs]) fun i hi => ?_
    simp only [List.length_take] at hi
    obtain ⟨a', h1, h2⟩ := hr.get (i := i) (by omega)
    rw [hs] at h1; cases h1
    rw [h2]; simp
theorem addW_wt (S : SS) (w : Nat) (y : Int) (i : Nat) (hw : w < S.wat.length) : (addW S w y).wt i = if i = w then S.wt w ++ [y] else S.wt i := getD_set _ _ _ _ _ hw
theorem addW_len (S : SS) (w : Nat) (y : Int) : (addW S w y).wat.length = S.wat.length := by simp [addW]
theorem link_spec {j : Nat} {Q : Unit → Heap → Prop} (q : SM h p x vs S) (b : Bnd S) (hj : j < S.cls.length) (h2 : 2 ≤ (S.cl j).lits.length) (hth : ∀ l ∈ (S.cl j).lits, There S.val.length l) (hw : S.wat.length = 2 * S.val.length)
    (K : ∀ h' x' vs', SM h' p x' vs' (linkS S j) → To p 8 h x h' x' → (∀ i, x' (.c i) = x (.c i)) → Q () h') : clause_link (some p) (j : Int) h Q := by
  have hn := b.n
  refine q.ld0 (q.clsLits rfl hj ?_)
  have hrow := (q.cl j).r
  refine hrow.take (i := 2) (by decide) (by omega) fun v hv _ hva hvl => ?_
  have e2 : (Int.toNat 2) = 2 := rfl
  rw [e2] at hv
  have hvlen := hv.len
  rw [List.length_take] at hvlen
  have hva2 : v.a = (x (.c j)).a := by rcases hva with g | g; exact g; omega
  have hvc := hv.cap
  have hl0 : There S.val.length (atI (S.cl j).lits 0) := hth _ (at_mem (by omega))
  have hl1 : There S.val.length (atI (S.cl j).lits 1) := hth _ (at_mem (by omega))
  refine loop.inv (fun (s0 : Int) hh => ∃ (i : Nat) (x' : Nm → Sl) (vs' : Nm → List Value) (S' : SS), s0 = (i : Int) ∧ SM hh p x' vs' S' ∧ To p 8 h x hh x' ∧ (∀ i, x' (.c i) = x (.c i)) ∧ S'.cls = S.cls ∧ S'.wat.length = S.wat.length ∧ (∀ w, (S'.wt w).length ≤ 1073741824 + i) ∧
      ((i = 0 ∧ S' = S) ∨ (i = 1 ∧ S' = addW S (wch (atI (S.cl j).lits 0)) j) ∨ (i = 2 ∧ S' = linkS S j))) (fun s0 _ => 2 - s0.toNat)
    ⟨0, x, vs, S, rfl, q, To.refl, fun _ => rfl, rfl, rfl, b.wn, .inl ⟨rfl, rfl⟩⟩ ?_
  rintro s0 hh ⟨i, x', vs', S', rfl, q', t', hx', hc', hw', hwn', hcase⟩
  dsimp only
  refine ⟨fun hlt => ?_, fun hge => ?_⟩
  · simp only [decide_eq_true_eq] at hlt
    have hi : i < 2 := by omega
    have hcl : S'.cl j = S.cl j := by unfold SS.cl; rw [hc']
    have hrow' : R toI hh v ((S.cl j).lits.take 2) := by
      have := (q'.cl j).r
      rw [hcl, hx'] at this
      exact R.sub this hva2 (by omega) h2 hvc
    have hlit : at0 ((S.cl j).lits.take 2) i = atI (S.cl j).lits i := by
      rw [at_get (by simp; omega), List.getElem_take]
      exact (at_get (by omega)).symm
    have hl : There S.val.length (atI (S.cl j).lits i) := hth _ (at_mem (by omega))
    have hwl : wch (atI (S.cl j).lits i) < S'.wat.length := by rw [hw', hw]; exact wch_lt hl
    refine seq.cut (fun (_ : Unit) h9 => ∃ (x9 : Nm → Sl) (vs9 : Nm → List Value), SM h9 p x9 vs9 (addW S' (wch (atI (S.cl j).lits i)) j) ∧ To p 8 h x h9 x9 ∧ (∀ i, x9 (.c i) = x (.c i))) ?_ ?_
    · refine RJ.ld hrow' (j := i) rfl (by simp; omega) ?_
      rw [hlit]
      have hb9 : (S'.wt (wch (atI (S.cl j).lits i))).length ≤ 2000000000 := by have := hwn' (wch (atI (S.cl j).lits i)); omega
      generalize atI (S.cl j).lits i = l at *
      have r1 : ∀ {hz : Heap}, SM hz p x' vs' S' → cell? hz (p.add 1) = some (Sl.toV (x' .wat)) := fun qz => (qz.root 1 (by decide)).1
      have fin : ∀ {hz : Heap} (e : Ext hh hz) {row : Sl} (hr : R toI hz row [(j : Int)]),
          appendS 1 8 (x' (.w (wch l))) row hz fun v9 h8 => (cell? h8 (p.add 1) = some (Sl.toV (x' .wat))) ∧ idxS (x' .wat) (wch l : Int) 1 fun a => Lift.store a (Sl.toV v9) h8 fun h9 => ∃ (x9 : Nm → Sl) (vs9 : Nm → List Value), SM h9 p x9 vs9 (addW S' (wch l) j) ∧ To p 8 h x h9 x9 ∧ (∀ i, x9 (.c i) = x (.c i)) := by
        intro hz e row hr
        have qz := q'.ext e
        refine qz.appW hr hb9 fun v9 h8 m => ⟨(m.root 1 (by decide)).1, m.store qz rfl hwl fun h9 vs9 q9 t9 => ⟨_, vs9, q9, t'.trans ((q'.toExt e).trans t9), fun i => by rw [upd_ne (by simp)]; exact hx' i⟩⟩
      refine q'.ld1 (q'.ld1 ⟨?_, ?_⟩)
      · refine watch_spec hl hn ⟨r1 q', r1 q', ?_, ?_⟩
        · refine watch_spec hl hn ⟨r1 q', r1 q', q'.watAt rfl hwl fun a ha hc => ⟨_, hc, newJ fun h4 hr e4 _ => ⟨r1 (q'.ext e4), r1 (q'.ext e4), cell_keep e4 hc (by simp), ?_⟩⟩⟩
          exact fin e4 hr
        · refine newJ fun h4 hr e4 _ => ⟨r1 (q'.ext e4), r1 (q'.ext e4), watch_spec hl hn ⟨r1 (q'.ext e4), r1 (q'.ext e4), (q'.ext e4).watLd rfl hwl ?_⟩⟩
          exact fin e4 hr
      · refine newJ fun h4 hr e4 _ => ⟨r1 (q'.ext e4), r1 (q'.ext e4), watch_spec hl hn ⟨r1 (q'.ext e4), r1 (q'.ext e4), watch_spec hl hn ⟨r1 (q'.ext e4), r1 (q'.ext e4), (q'.ext e4).watLd rfl hwl ?_⟩⟩⟩
        exact fin e4 hr
    · rintro _ h9 ⟨x9, vs9, q9, t9, hx9⟩
      rw [w64 (by omega) (by omega)]
      refine ⟨⟨i + 1, x9, vs9, _, by omega, q9, t9, hx9, hc', by rw [addW_len]; exact hw', fun w => ?_, ?_⟩, by omega⟩
      · rw [addW_wt _ _ _ _ hwl]
        have := hwn' w
        have := hwn' (wch (atI (S.cl j).lits i))
        split
        · simp; omega
        · omega
      · rcases hcase with ⟨rfl, rfl⟩ | ⟨rfl, rfl⟩ | ⟨rfl, _⟩
        · exact .inr (.inl ⟨rfl, rfl⟩)
        · exact .inr (.inr ⟨rfl, rfl⟩)
        · omega
  · simp only [decide_eq_false_iff_not] at hge
    rcases hcase with ⟨rfl, rfl⟩ | ⟨rfl, rfl⟩ | ⟨rfl, rfl⟩
    · omega
    · omega
    · exact K hh x' vs' q' t' hx'
def addS (S : SS) (L : List Int) (b : Bool) : SS := linkS { S with cls := S.cls ++ [⟨L, b, 0⟩] } S.cls.length
theorem cl_app (S : SS) (c : Cl) : ({ S with cls := S.cls ++ [c] } : SS).cl S.cls.length = c := by
  unfold SS.cl; rw [List.getD_eq_getElem?_getD]; simp
open Classical in
theorem cAdd_spec {s : Sl} {L : List Int} {lr : Bool} {Q : Int × Int → Heap → Prop} (q : SM h p x vs S) (b : Bnd S) (hc : S.cls.length < 1073741824) (hw : S.wat.length = 2 * S.val.length) (hr : RJ h s L) (hl : L.length ≤ 1048576)
    (K0 : ¬ FitsL S.val.length L → ∀ h', Ext h h' → Q (0, 1) h')
    (K1 : FitsL S.val.length L → ∀ h' x' vs', SM h' p x' vs' (addS S L lr) → To p 8 h x h' x' → Q ((S.cls.length : Int), 0) h') : clause_Add (some p) s lr h Q := by
  refine fits_spec q b.n hr hl fun f h1 hf e1 => ⟨fun hno => K0 (fun h => by rw [hf.2 h] at hno; cases hno) h1 e1, fun hy => ?_⟩
  have fit : FitsL S.val.length L := hf.1 (by simpa using hy)
  have q1 := q.ext e1
  refine q1.ld0 ?_
  rintro at0 rfl
  rw [q1.clsLen]
  refine q1.ld0 (cloneI_spec (R.ext hr e1) (by omega) fun r h2 o2 e2 => ?_)
  have q2 := q1.ext e2
  refine ⟨(q2.root 0 (by decide)).1, ?_⟩
  have hempty : vs (.c S.cls.length) = [] := by
    rw [q.enc.c]
    have : S.cl S.cls.length = ⟨[], false, 0⟩ := by unfold SS.cl; rw [List.getD_eq_getElem?_getD]; simp
    rw [this]; rfl
  have n2 := q1.ns.put (.c S.cls.length) (s' := r) (l' := L.map toI) (h' := h2) (Keep.of_ext e2) (by rw [show Nm.sc (.c S.cls.length) = 1 from rfl, Sl.sc_one]; exact OwnV.of one_toI o2) (fun b hb => .inr (o2.lt hb).1)
  have t2 := To.row (p := p) (n := 8) (x := x) (.c S.cls.length) (s' := r) (h := h1) (h' := h2) (Keep.of_ext e2) (q1.pn _) (fun b hb => .inr (o2.lt hb).1) q1.plt
  have pn2 : ∀ i, (upd x (.c S.cls.length) r i).blk ≠ some p.block := by
    intro i
    by_cases e : i = .c S.cls.length
    · subst e; rw [upd_at]; intro hv; have := (o2.lt hv).1; have := q1.plt; omega
    · rw [upd_ne e]; exact q1.pn i
  intro T
  have e3 := Ext.push h2 (.cells [Sl.toV r, Value.bool lr, Value.int .i64 0].toArray T (0, 0))
  have hrow := (Own.new (toV := (Subtype.val : One → Value)) (h := h2) (ys := [⟨Sl.toV r, rfl⟩, ⟨Value.bool lr, rfl⟩, ⟨Value.int .i64 0, rfl⟩]) (cs := [Sl.toV r, Value.bool lr, Value.int .i64 0]) (T := T) rfl).r
  generalize (h2.push (.cells [Sl.toV r, Value.bool lr, Value.int .i64 0].toArray T (0, 0)) : Heap) = h3 at *
  have n3 := n2.ext e3
  have q3 := q2.ext e3
  refine ⟨(q3.root 0 (by decide)).1, ?_⟩
  have t3 : To p 8 h1 x h3 (upd x (.c S.cls.length) r) := t2.trans (To.ext e3 q2.plt)
  have own3 := n3.own .cls
  rw [upd_ne (by simp), upd_ne (by simp)] at own3
  refine appendS_sc (by decide) (by rw [q1.clsLen]; show (S.cls.length + 1) * 40 ≤ 2 ^ 46; omega) ?_
  refine own3.append (ys := [Sl.toV r, Value.bool lr, Value.int .i64 0]) ⟨_, rfl, hrow⟩ (by simp) fun v h4 o4 k4 hb4 s'' hs'' => ?_
  subst hs''
  have k4' : Keep (x .cls).blk h3 h4 := k4
  have hb4' : ∀ b, s''.blk = some b → (x .cls).blk = some b ∨ h3.size ≤ b := hb4
  have n4 := n3.put .cls (s' := s'') (h' := h4) (l' := vs .cls ++ [Sl.toV r, Value.bool lr, Value.int .i64 0]) (by rw [upd_ne (by simp)]; exact k4') o4 (fun b hb => by rw [upd_ne (by simp)]; exact hb4' b hb)
  have t4 := To.row (p := p) (n := 8) (x := upd x (.c S.cls.length) r) .cls (s' := s'') (h := h3) (h' := h4) (by rw [upd_ne (by simp)]; exact k4') (pn2 _) (fun b hb => by rw [upd_ne (by simp)]; exact hb4' b hb) q3.plt
  have r4 := q3.root.keep k4' (fun e => q.pn _ e.symm)
  refine ⟨p, rfl, ⟨_, (r4 0 (by decide)).1⟩, (r4 0 (by decide)).2, ?_⟩
  have k5 := Keep.setCell h4 (p.add 0) (Sl.toV s'')
  rw [addr_add_block] at k5
  have pn4 : ∀ i, (upd (upd x (.c S.cls.length) r) .cls s'' i).blk ≠ some p.block := by
    intro i
    by_cases e : i = .cls
    · subst e; rw [upd_at]; intro hv
      rcases hb4' _ hv with g | g
      · exact q.pn _ g
      · have := q3.plt; omega
    · rw [upd_ne e]; exact pn2 i
  have q5 : SM (setCell h4 (p.add 0) (Sl.toV s'')) p (upd (upd x (.c S.cls.length) r) .cls s'') (upd (upd vs (.c S.cls.length) (L.map toI)) .cls (vs .cls ++ [Sl.toV r, Value.bool lr, Value.int .i64 0])) { S with cls := S.cls ++ [⟨L, lr, 0⟩] } := by
    refine ⟨n4.keep k5 (fun i b hb e => pn4 i (by rw [hb, e])), q.spot, ?_, pn4, q.enc.addC r s'' ⟨L, lr, 0⟩⟩
    intro i hi
    have := r4.set q.spot (i := 0) (by decide) (Sl.toV s'') i hi
    refine ⟨this.1.trans ?_, this.2⟩
    match i, hi with
    | 0, _ => simp only [rootV]; rw [upd_at]; rfl
    | 1, _ => simp only [rootV]; rw [upd_ne (by simp), upd_ne (by simp)]; rfl
    | 2, _ => simp only [rootV]; rw [upd_ne (by simp), upd_ne (by simp)]; rfl
    | 3, _ => simp only [rootV]; rw [upd_ne (by simp), upd_ne (by simp)]; rfl
    | 4, _ => simp only [rootV]; rw [upd_ne (by simp), upd_ne (by simp)]; rfl
    | 5, _ => simp only [rootV]; rw [upd_ne (by simp), upd_ne (by simp)]; rfl
    | 6, _ => simp only [rootV]; rw [upd_ne (by simp), upd_ne (by simp)]; rfl
    | 7, _ => rfl
  have t5 : To p 8 h x (setCell h4 (p.add 0) (Sl.toV s'')) (upd (upd x (.c S.cls.length) r) .cls s'') := (q.toExt e1).trans (t3.trans (t4.trans (To.set q.spot (by decide))))
  refine link_spec q5 ⟨b.n, by show (S.cls ++ [_]).length ≤ _; simp; omega, b.tn, b.hn, b.wn⟩ (by simp) ?_ ?_ hw fun h6 x6 vs6 q6 t6 _ => K1 fit h6 x6 vs6 q6 (t5.trans t6)
  · rw [cl_app]; exact fit.2.2
  · rw [cl_app]; exact fit.1
end Go.Sh

namespace Go.Sh
open Go Go.Lift Go.Cla
theorem length_count {α : Type} [DecidableEq α] (l : List α) (a : α) : l.length = l.count a + (l.filter (fun x => !(x == a))).length := by
  induction l with
  | nil => rfl
  | cons x l ih =>
    rw [List.count_cons, List.filter_cons]
    by_cases e : x = a
    · subst e; simp; omega
    · have h1 : (x == a) = false := by simpa using e
      rw [h1]
      simp; omega
theorem few_of_count {α : Type} [DecidableEq α] (f : Nat → α) : ∀ (N : Nat) (l : List α), (∀ y ∈ l, ∃ j, j < N ∧ y = f j) → (∀ j, j < N → l.count (f j) ≤ 1) → l.length ≤ N := by
  intro N
  induction N with
  | zero =>
    intro l h _
    cases l with
    | nil => simp
    | cons y l => obtain ⟨j, hj, _⟩ := h y (by simp); omega
  | succ N ih =>
    intro l h hc
    have h1 := length_count l (f N)
    have h2 := hc N (by omega)
    have h3 := ih (l.filter (fun x => !(x == f N))) (fun y hy => by
      obtain ⟨hm, hne⟩ := List.mem_filter.1 hy
      obtain ⟨j, hj, e⟩ := h y hm
      have hne : y ≠ f N := by simpa using hne
      have : j ≠ N := fun h => hne (by rw [e, h])
      exact ⟨j, by omega, e⟩) (fun j hj => by
      have h5 : (l.filter (fun x => !(x == f N))).count (f j) ≤ l.count (f j) := (List.filter_sublist).count_le _
      have := hc j (by omega); omega)
    omega
theorem few_of_nodup {N : Nat} {l : List Nat} (h : l.Nodup) (hb : ∀ x ∈ l, x < N) : l.length ≤ N :=
  few_of_count id N l (fun y hy => ⟨y, hb y hy, rfl⟩) (fun j _ => List.nodup_iff_count.1 h j)
def lit (S : SS) (j i : Nat) : Int := atI (S.cl j).lits i
def watches (S : SS) (j w : Nat) : Prop := wch (lit S j 0) = w ∨ wch (lit S j 1) = w
instance (S : SS) (j w : Nat) : Decidable (watches S j w) := by unfold watches; infer_instance
structure Wok (n : Nat) (S : SS) (W : Nat → List Int) : Prop where
  rng : ∀ w, w < 2 * n → ∀ y ∈ W w, ∃ j, j < S.cls.length ∧ y = (j : Int)
  cnt : ∀ w, w < 2 * n → ∀ j, j < S.cls.length → (W w).count (j : Int) = if watches S j w then 1 else 0
structure Tok (n : Nat) (S : SS) : Prop where
  nb : n ≤ 1048576
  vn : S.val.length = n
  ln : S.lev.length = n
  rn : S.rea.length = n
  wn : S.wat.length = 2 * n
  tri : Tri S.val
  cn : S.cls.length ≤ 1073741824
  fit : ∀ j, j < S.cls.length → FitsL n (S.cl j).lits
  tt : ∀ l ∈ S.tra, There n l ∧ atI S.val (tr l) = sg l
  tn : (S.tra.map tr).Nodup
  tv : ∀ v, v < n → atI S.val v ≠ 0 → ∃ l ∈ S.tra, tr l = v
  nx : S.nxt ≤ S.tra.length
  hn : S.hea.length ≤ 1073741824
def NotLate (S : SS) (k : Nat) (l : Int) : Prop := ∃ q, q < S.tra.length ∧ atI S.tra q = l ∧ ∀ hd ∈ S.hea, (k : Int) < hd → (q : Int) < hd
def Proc (S : SS) (m : Nat) (ex : Nat → Nat → Prop) : Prop :=
  ∀ j, j < S.cls.length → ∀ k, k < m → ¬ ex j k → (atI S.tra k = - lit S j 0 → NotLate S k (lit S j 1)) ∧ (atI S.tra k = - lit S j 1 → NotLate S k (lit S j 0))
variable {n : Nat} {S : SS}
theorem Tok.tlen (t : Tok n S) : S.tra.length ≤ n := by
  have := few_of_nodup t.tn (N := n) (fun v hv => by obtain ⟨l, hl, e⟩ := List.mem_map.1 hv; rw [← e]; exact (t.tt l hl).1.tr)
  simpa using this
theorem Wok.len {W : Nat → List Int} (k : Wok n S W) {w : Nat} (hw : w < 2 * n) : (W w).length ≤ S.cls.length :=
  few_of_count (fun j : Nat => (j : Int)) _ _ (k.rng w hw) (fun j hj => by rw [k.cnt w hw j hj]; split <;> omega)
theorem wt_none {w : Nat} (h : S.wat.length ≤ w) : S.wt w = [] := by unfold SS.wt; rw [List.getD_eq_getElem?_getD, List.getElem?_eq_none h]; rfl
theorem Tok.bnd (t : Tok n S) {W : Nat → List Int} (k : Wok n S W) (hW : ∀ w, (S.wt w).length ≤ (W w).length) : Bnd S where
  n := by rw [t.vn]; exact t.nb
  cn := t.cn
  tn := by have := t.tlen; have := t.nb; omega
  hn := t.hn
  wn := fun w => by
    by_cases hw : w < 2 * n
    · have := k.len hw; have := hW w; have := t.cn; omega
    · rw [wt_none (by rw [t.wn]; omega)]; simp
theorem Tok.vl_iff (t : Tok n S) {l : Int} : vl S.val l = 1 ↔ l ∈ S.tra := by
  constructor
  · intro h
    have hth := vl_there (by rw [h]; decide : vl S.val l ≠ 0)
    have h2 := h
    unfold vl at h2
    rw [if_pos hth] at h2
    have hne : atI S.val (tr l) ≠ 0 := fun e => by rw [e] at h2; simp at h2
    obtain ⟨m, hm, e⟩ := t.tv _ (by rw [← t.vn]; exact hth.tr) hne
    obtain ⟨hm1, hm2⟩ := t.tt m hm
    rw [e] at hm2
    rw [hm2] at h2
    have : sg m = sg l := by rcases sg_or m with g | g <;> rcases sg_or l with k | k <;> rw [g, k] at h2 <;> first | (exfalso; revert h2; decide) | (rw [g, k])
    rw [← lit_same hm1.1 hth.1 e this]; exact hm
  · intro h
    obtain ⟨h1, h2⟩ := t.tt l h
    unfold vl
    rw [if_pos (by rw [t.vn]; exact h1), h2, sg_sq]
theorem Tok.vlf_iff (t : Tok n S) {l : Int} : vl S.val l = -1 ↔ -l ∈ S.tra := by
  rw [← t.vl_iff, vl_neg]; omega
theorem mem_at {l : List Int} {y : Int} (h : y ∈ l) : ∃ q, q < l.length ∧ atI l q = y := by
  obtain ⟨i, hi, e⟩ := List.getElem_of_mem h
  exact ⟨i, hi, by rw [← e]; exact at_get hi⟩
theorem nodup_at {l : List Int} (h : (l.map tr).Nodup) {i j : Nat} (hi : i < l.length) (hj : j < l.length) (e : tr (atI l i) = tr (atI l j)) : i = j := by
  have hp := List.pairwise_iff_getElem.1 h
  have g : ∀ k (hk : k < l.length), (l.map tr)[k]'(by simpa using hk) = tr (atI l k) := fun k hk => by
    rw [List.getElem_map]; congr 1; exact (at_get hk).symm
  rcases Nat.lt_trichotomy i j with hlt | he | hlt
  · exact absurd ((g i hi).trans (e.trans (g j hj).symm)) (hp i j (by simpa using hi) (by simpa using hj) hlt)
  · exact he
  · exact absurd ((g j hj).trans (e.symm.trans (g i hi).symm)) (hp j i (by simpa using hj) (by simpa using hi) hlt)
theorem FitsL.at {j : Nat} (f : FitsL n (S.cl j).lits) {i : Nat} (hi : i < (S.cl j).lits.length) : There n (lit S j i) := f.1 _ (at_mem hi)
theorem FitsL.two {L : List Int} (f : FitsL n L) {i k : Nat} (hi : i < L.length) (hk : k < L.length) (hne : i ≠ k) : tr (atI L i) ≠ tr (atI L k) := fun e => hne (nodup_at f.2.1 hi hk e)
theorem FitsL.ne {L : List Int} (f : FitsL n L) {i k : Nat} (hi : i < L.length) (hk : k < L.length) (hne : i ≠ k) : atI L i ≠ atI L k := fun e => f.two hi hk hne (by rw [e])
theorem stands (t : Tok n S) (p : Proc S S.tra.length (fun _ _ => False)) {j : Nat} (hj : j < S.cls.length) : Stand S.val (S.cl j).lits := by
  have f := t.fit j hj
  have h2 := f.2.2
  have m0 : lit S j 0 ∈ (S.cl j).lits := at_mem (by omega)
  have m1 : lit S j 1 ∈ (S.cl j).lits := at_mem (by omega)
  have hne : lit S j 0 ≠ lit S j 1 := f.ne (by omega) (by omega) (by decide)
  have side : ∀ a b : Int, b ∈ (S.cl j).lits → vl S.val a = -1 → (∀ k, k < S.tra.length → atI S.tra k = -a → NotLate S k b) → Stand S.val (S.cl j).lits := by
    intro a b hb hv hp
    obtain ⟨k, hk, e⟩ := mem_at (t.vlf_iff.1 hv)
    obtain ⟨q, hq, e2, _⟩ := hp k hk e
    refine .inl ⟨b, hb, t.vl_iff.2 ?_⟩
    rw [← e2]; exact at_mem hq
  rcases t.tri.vl (lit S j 0) with h0 | h0 | h0
  · exact side _ _ m1 h0 (fun k hk e => (p j hj k hk id).1 e)
  · rcases t.tri.vl (lit S j 1) with h1 | h1 | h1
    · exact side _ _ m0 h1 (fun k hk e => (p j hj k hk id).2 e)
    · exact .inr ⟨_, m0, _, m1, hne, h0, h1⟩
    · exact .inl ⟨_, m1, h1⟩
  · exact .inl ⟨_, m0, h0⟩
def swapL (l : List Int) (a b : Nat) : List Int := (l.set a (atI l b)).set b (atI l a)
theorem swapL_len (l : List Int) (a b : Nat) : (swapL l a b).length = l.length := by simp [swapL]
theorem at_setL (l : List Int) (i k : Nat) (y : Int) (hi : i < l.length) : atI (l.set i y) k = if k = i then y else atI l k := getD_set _ _ _ _ _ hi
theorem at_swapL {l : List Int} {a b : Nat} (ha : a < l.length) (hb : b < l.length) (k : Nat) : atI (swapL l a b) k = if k = a then atI l b else if k = b then atI l a else atI l k := by
  unfold swapL
  rw [at_setL _ _ _ _ (by simpa using hb), at_setL _ _ _ _ ha]
  by_cases e : k = b
  · subst e
    by_cases e2 : k = a
    · subst e2; simp
    · simp [e2]
  · simp [e]
theorem mem_iff_at {l : List Int} {y : Int} : y ∈ l ↔ ∃ q, q < l.length ∧ atI l q = y := ⟨mem_at, fun ⟨q, hq, e⟩ => e ▸ at_mem hq⟩
theorem mem_swapL {l : List Int} {a b : Nat} (ha : a < l.length) (hb : b < l.length) (y : Int) : y ∈ swapL l a b ↔ y ∈ l := by
  rw [mem_iff_at, mem_iff_at, swapL_len]
  constructor
  · rintro ⟨q, hq, e⟩
    rw [at_swapL ha hb] at e
    split at e
    · exact ⟨b, hb, e⟩
    · split at e
      · exact ⟨a, ha, e⟩
      · exact ⟨q, hq, e⟩
  · rintro ⟨q, hq, e⟩
    by_cases e1 : q = a
    · refine ⟨b, hb, ?_⟩
      rw [at_swapL ha hb]
      by_cases e2 : b = a
      · subst e2; rw [if_pos rfl, ← e1]; exact e
      · rw [if_neg e2, if_pos rfl, ← e1]; exact e
    · by_cases e2 : q = b
      · refine ⟨a, ha, ?_⟩
        rw [at_swapL ha hb, if_pos rfl, ← e2]; exact e
      · refine ⟨q, hq, ?_⟩
        rw [at_swapL ha hb, if_neg e1, if_neg e2]; exact e
theorem fits_swapL {l : List Int} {a b : Nat} (f : FitsL n l) (ha : a < l.length) (hb : b < l.length) : FitsL n (swapL l a b) := by
  refine ⟨fun y hy => f.1 y ((mem_swapL ha hb y).1 hy), ?_, by rw [swapL_len]; exact f.2.2⟩
  unfold List.Nodup
  rw [List.pairwise_iff_getElem]
  intro i j hi hj hlt e
  simp only [List.length_map, swapL_len] at hi hj
  rw [List.getElem_map, List.getElem_map] at e
  have g : ∀ k (hk : k < (swapL l a b).length), (swapL l a b)[k] = atI (swapL l a b) k := fun k hk => (at_get hk).symm
  rw [g, g, at_swapL ha hb, at_swapL ha hb] at e
  have key : ∀ u v, u < l.length → v < l.length → tr (atI l u) = tr (atI l v) → u = v := fun u v hu hv he => nodup_at f.2.1 hu hv he
  split at e <;> split at e <;> (try split at e) <;> (try split at e) <;>
    first
      | omega
      | (have := key _ _ (by assumption) (by assumption) e; omega)
def setL (S : SS) (j : Nat) (l : List Int) : SS := { S with cls := S.cls.set j { S.cl j with lits := l } }
theorem setL_cl (S : SS) (j : Nat) (l : List Int) (i : Nat) (hj : j < S.cls.length) : (setL S j l).cl i = if i = j then { S.cl j with lits := l } else S.cl i := getD_set _ _ _ _ _ hj
theorem setL_setL (S : SS) (j : Nat) (l l2 : List Int) (hj : j < S.cls.length) : setL (setL S j l) j l2 = setL S j l2 := by
  unfold setL
  simp only [List.set_set]
  congr 2
  have := setL_cl S j l j hj
  unfold setL at this
  rw [this, if_pos rfl]
theorem setL_self (S : SS) (j : Nat) (hj : j < S.cls.length) : setL S j (S.cl j).lits = S := by
  unfold setL
  have : ({ S.cl j with lits := (S.cl j).lits } : Cl) = S.cls[j] := by
    unfold SS.cl
    rw [List.getD_eq_getElem?_getD, List.getElem?_eq_getElem hj]
    rfl
  rw [this, List.set_getElem_self]
end Go.Sh

namespace Go.Sh
open Go Go.Lift Go.Cla
variable {h h' : Heap} {p : Addr} {x : Nm → Sl} {vs : Nm → List Value} {S : SS} {n : Nat}
def fr (S : SS) (j : Nat) (gone : Int) : List Int := if lit S j 0 = gone then swapL (S.cl j).lits 0 1 else (S.cl j).lits
theorem fr_len (S : SS) (j : Nat) (gone : Int) : (fr S j gone).length = (S.cl j).lits.length := by unfold fr; split; exact swapL_len _ _ _; rfl
theorem SM.swap (q : SM h p x vs S) {j a b : Nat} (hj : j < S.cls.length) (ha : a < (S.cl j).lits.length) (hb : b < (S.cl j).lits.length) {ia ib va vb : Int} (hia : ia = (a : Int)) (hib : ib = (b : Int)) (hva : va = atI (S.cl j).lits b) (hvb : vb = atI (S.cl j).lits a) {k : Heap → Prop}
    (K : ∀ h' vs', SM h' p x vs' (setL S j (swapL (S.cl j).lits a b)) → To p 8 h x h' x → k h') :
    idxS (x (.c j)) ia 1 fun a5 => Lift.store a5 (toI va) h fun h1 => idxS (x (.c j)) ib 1 fun a6 => Lift.store a6 (toI vb) h1 k := by
  subst hva hvb
  refine q.stI (nm := .c j) rfl (q.enc.c j) hia ha (q.enc.setC hj _) rfl fun h1 q1 t1 => ?_
  have hcl : (setL S j ((S.cl j).lits.set a (atI (S.cl j).lits b))).cl j = { S.cl j with lits := (S.cl j).lits.set a (atI (S.cl j).lits b) } := by rw [setL_cl _ _ _ _ hj, if_pos rfl]
  have hj1 : j < (setL S j ((S.cl j).lits.set a (atI (S.cl j).lits b))).cls.length := by unfold setL; simpa using hj
  refine SM.stI (S := setL S j ((S.cl j).lits.set a (atI (S.cl j).lits b))) q1 (nm := .c j) rfl (l := (S.cl j).lits.set a (atI (S.cl j).lits b)) upd_at hib (by simpa using hb) (S' := setL (setL S j ((S.cl j).lits.set a (atI (S.cl j).lits b))) j (swapL (S.cl j).lits a b)) (q1.enc.setC hj1 _) rfl fun h2 q2 t2 => ?_
  rw [setL_setL _ _ _ _ hj] at q2
  exact K h2 _ q2 (t1.trans t2)
theorem SM.litLd (q : SM h p x vs S) {j : Nat} {i : Int} {m : Nat} {k : Int → Prop} (hi : i = (m : Int)) (hm : m < (S.cl j).lits.length) (K : k (lit S j m)) : idxS (x (.c j)) i 1 fun a => Lift.load (Value.int .i64) a h k :=
  RJ.ld (q.cl j).r hi hm K
theorem SM.litAt (q : SM h p x vs S) {j : Nat} {i : Int} {m : Nat} {k : Addr → Prop} (hi : i = (m : Int)) (hm : m < (S.cl j).lits.length) (K : ∀ a : Addr, cell? h (a.add m) = some (toI (lit S j m)) → k (a.add m)) : idxS (x (.c j)) i 1 k := by
  subst hi
  have hr := (q.cl j).r
  obtain ⟨a, ha, hc⟩ := hr.get hm
  refine ⟨a, ha, ⟨by omega, by rw [hr.len]; omega⟩, ?_⟩
  simp only [Int.toNat_natCast, Nat.mul_one]
  refine K a ?_
  have : lit S j m = (S.cl j).lits[m] := at_get hm
  rw [this]; exact hc
theorem ask_spec {j : Nat} {gone : Int} {Q : Int → Heap → Prop} (q : SM h p x vs S) (t : Tok n S) (b : Bnd S) (hj : j < S.cls.length)
    (KA : vl S.val (atI (fr S j gone) 0) = 1 → ∀ h' vs', SM h' p x vs' (setL S j (fr S j gone)) → To p 8 h x h' x → Q 0 h')
    (KB : vl S.val (atI (fr S j gone) 0) ≠ 1 → ∀ k, 2 ≤ k → k < (S.cl j).lits.length → vl S.val (atI (fr S j gone) k) ≠ -1 → ∀ h' x' vs', SM h' p x' vs' (addW (setL S j (swapL (fr S j gone) 1 k)) (wch (atI (fr S j gone) k)) j) → To p 8 h x h' x' → Q 1 h')
    (KC : vl S.val (atI (fr S j gone) 0) = 0 → (∀ k, 2 ≤ k → k < (S.cl j).lits.length → vl S.val (atI (fr S j gone) k) = -1) → ∀ h' x' vs', SM h' p x' vs' (putS (setL S j (fr S j gone)) (atI (fr S j gone) 0) j) → To p 8 h x h' x' → Q 0 h')
    (KD : vl S.val (atI (fr S j gone) 0) = -1 → (∀ k, 2 ≤ k → k < (S.cl j).lits.length → vl S.val (atI (fr S j gone) k) = -1) → ∀ h' vs', SM h' p x vs' (setL S j (fr S j gone)) → To p 8 h x h' x → Q 2 h') : clause_ask (some p) (j : Int) gone h Q := by
  have hn := b.n
  have f := t.fit j hj
  have h2 := f.2.2
  have hlm : (S.cl j).lits.length ≤ 1048576 := by
    have := few_of_nodup f.2.1 (N := n) (fun v hv => by obtain ⟨l, hl, e⟩ := List.mem_map.1 hv; rw [← e]; exact (f.1 l hl).tr)
    rw [List.length_map] at this
    have := t.nb
    omega
  refine q.ld0 (q.clsLits rfl hj ?_)
  have ffr : FitsL n (fr S j gone) := by unfold fr; split; exact fits_swapL f (by omega) (by omega); exact f
  refine seq.cut (fun (_ : Unit) h1 => ∃ vs1, SM h1 p x vs1 (setL S j (fr S j gone)) ∧ To p 8 h x h1 x) ?_ ?_
  · refine q.litLd (m := 0) rfl (by omega) ⟨fun he => ?_, fun he => ?_⟩
    · have he : lit S j 0 = gone := by simpa using he
      refine q.litLd (m := 1) rfl (by omega) (q.litLd (m := 0) rfl (by omega) ?_)
      refine q.swap hj (a := 0) (b := 1) (by omega) (by omega) rfl rfl rfl rfl fun h1 vs1 q1 t1 => ⟨vs1, ?_, t1⟩
      unfold fr; rw [if_pos he]; exact q1
    · have he : lit S j 0 ≠ gone := by simpa using he
      refine ⟨vs, ?_, To.refl⟩
      unfold fr; rw [if_neg he, setL_self _ _ hj]; exact q
  rintro _ h1 ⟨vs1, q1, t1⟩
  have hcl : (setL S j (fr S j gone)).cl j = { S.cl j with lits := fr S j gone } := by rw [setL_cl _ _ _ _ hj, if_pos rfl]
  have hll : ((setL S j (fr S j gone)).cl j).lits = fr S j gone := by rw [hcl]
  have hlen : ((setL S j (fr S j gone)).cl j).lits.length = (S.cl j).lits.length := by rw [hll, fr_len]
  have hlit : ∀ i, lit (setL S j (fr S j gone)) j i = atI (fr S j gone) i := fun i => by unfold lit; rw [hll]
  have hj1 : j < (setL S j (fr S j gone)).cls.length := by unfold setL; simpa using hj
  have b1 : Bnd (setL S j (fr S j gone)) := ⟨b.n, by unfold setL; simpa using b.cn, b.tn, b.hn, b.wn⟩
  have hn1 : (setL S j (fr S j gone)).val.length ≤ 1048576 := hn
  have tri1 : Tri (setL S j (fr S j gone)).val := t.tri
  refine q1.ldS (q1.litLd (m := 0) rfl (by omega) (Value_spec q1.val.r hn1 tri1 fun h2' e2 => ?_))
  rw [hlit]
  have hv0 : (setL S j (fr S j gone)).val = S.val := rfl
  rw [hv0]
  refine ⟨fun hp => ?_, fun hp => ?_⟩
  · simp only [decide_eq_true_eq] at hp
    have h3 := t.tri.vl (atI (fr S j gone) 0)
    exact KA (by omega) h2' vs1 (q1.ext e2) (t1.trans (q1.toExt e2))
  · simp only [decide_eq_false_iff_not] at hp
    have hno : vl S.val (atI (fr S j gone) 0) ≠ 1 := by omega
    have q2 := q1.ext e2
    have t2 := t1.trans (q1.toExt e2)
    rw [(q1.cl j).r.len, hlen]
    refine loop.inv (fun (s0 : Int) h3 => ∃ k : Nat, s0 = (k : Int) ∧ 2 ≤ k ∧ k ≤ (S.cl j).lits.length ∧ (∀ i, 2 ≤ i → i < k → vl S.val (atI (fr S j gone) i) = -1) ∧ Ext h2' h3) (fun s0 _ => (S.cl j).lits.length - s0.toNat) ⟨2, rfl, Nat.le_refl _, h2, fun i h1 h2 => by omega, Keep.refl _ _⟩ ?_
    rintro s0 h3 ⟨k, rfl, hk2, hkl, hall, e3⟩
    have q3 := q2.ext e3
    have t3 := t2.trans (q2.toExt e3)
    dsimp only
    refine ⟨fun hlt => ?_, fun hge => ?_⟩
    · simp only [decide_eq_true_eq] at hlt
      have hk : k < (S.cl j).lits.length := by omega
      refine q3.ldS (q3.litLd (m := k) rfl (by omega) (Value_spec q3.val.r hn1 tri1 fun h4 e4 => ?_))
      rw [hlit, hv0]
      have q4 := q3.ext e4
      have t4 := t3.trans (q3.toExt e4)
      have h5 := t.tri.vl (atI (fr S j gone) k)
      refine ⟨fun hp => ?_, fun hp => ?_⟩
      · simp only [ge_iff_le, decide_eq_true_eq] at hp
        refine q4.litLd (m := k) rfl (by omega) (q4.litLd (m := 1) rfl (by omega) ?_)
        have hks : (1 : Int) = ((1 : Nat) : Int) := rfl
        refine q4.swap hj1 (a := 1) (b := k) (by omega) (by omega) hks rfl rfl rfl fun h6 vs6 q6 t6 => ?_
        rw [hll, setL_setL _ _ _ _ hj] at q6
        have hl1 : lit (setL S j (swapL (fr S j gone) 1 k)) j 1 = atI (fr S j gone) k := by
          unfold lit
          rw [setL_cl _ _ _ _ hj, if_pos rfl]
          show atI (swapL (fr S j gone) 1 k) 1 = _
          rw [at_swapL (by rw [fr_len]; omega) (by rw [fr_len]; omega), if_pos rfl]
        have hlen6 : ((setL S j (swapL (fr S j gone) 1 k)).cl j).lits.length = (S.cl j).lits.length := by
          rw [setL_cl _ _ _ _ hj, if_pos rfl]
          show (swapL (fr S j gone) 1 k).length = _
          rw [swapL_len, fr_len]
        have hth : There n (atI (fr S j gone) k) := ffr.1 _ (at_mem (by rw [fr_len]; omega))
        have hwl : wch (atI (fr S j gone) k) < (setL S j (swapL (fr S j gone) 1 k)).wat.length := by
          show _ < S.wat.length
          rw [t.wn]; exact wch_lt hth
        have hb9 : ((setL S j (swapL (fr S j gone) 1 k)).wt (wch (atI (fr S j gone) k))).length ≤ 2000000000 := by
          have := b.wn (wch (atI (fr S j gone) k))
          have e : (setL S j (swapL (fr S j gone) 1 k)).wt (wch (atI (fr S j gone) k)) = S.wt (wch (atI (fr S j gone) k)) := rfl
          rw [e]; omega
        have hne : vl S.val (atI (fr S j gone) k) ≠ -1 := by omega
        have KB := KB hno k hk2 hk hne
        have t7 := t4.trans t6
        refine seq.cut (fun (_ : Unit) h9 => ∃ x9 vs9, SM h9 p x9 vs9 (addW (setL S j (swapL (fr S j gone) 1 k)) (wch (atI (fr S j gone) k)) j) ∧ To p 8 h x h9 x9) ?_ (fun _ h9 ⟨x9, vs9, q9, t9⟩ => KB h9 x9 vs9 q9 t9)
        generalize atI (fr S j gone) k = l at *
        have hn' := t.nb
        have r1 : ∀ {hz : Heap}, SM hz p x vs6 (setL S j (swapL (fr S j gone) 1 k)) → cell? hz (p.add 1) = some (Sl.toV (x .wat)) := fun qz => (qz.root 1 (by decide)).1
        have fin : ∀ {hz : Heap} (e : Ext h6 hz) {row : Sl} (hr : R toI hz row [(j : Int)]),
            appendS 1 8 (x (.w (wch l))) row hz fun v9 h8 => (cell? h8 (p.add 1) = some (Sl.toV (x .wat))) ∧ idxS (x .wat) (wch l : Int) 1 fun a => Lift.store a (Sl.toV v9) h8 fun h9 => ∃ x9 vs9, SM h9 p x9 vs9 (addW (setL S j (swapL (fr S j gone) 1 k)) (wch l) j) ∧ To p 8 h x h9 x9 := by
          intro hz e row hr
          have qz := q6.ext e
          exact qz.appW hr hb9 fun v9 h8 m => ⟨(m.root 1 (by decide)).1, m.store qz rfl hwl fun h9 vs9 q9 t9 => ⟨_, vs9, q9, t7.trans ((q6.toExt e).trans t9)⟩⟩
        refine q6.ld1 (q6.litAt (m := 1) hks (by omega) fun a1 hc1 => ?_)
        rw [hl1] at hc1
        refine ⟨_, hc1, q6.ld1 (q6.litAt (m := 1) hks (by omega) fun a2 hc2 => ?_)⟩
        rw [hl1] at hc2
        refine ⟨_, hc2, ?_, ?_⟩
        · refine watch_spec hth hn' ⟨r1 q6, r1 q6, hc2, ?_, ?_⟩
          · exact watch_spec hth hn' ⟨r1 q6, r1 q6, q6.watAt rfl hwl fun a ha hc => ⟨_, hc, newJ fun h8 hr e8 _ => ⟨r1 (q6.ext e8), r1 (q6.ext e8), cell_keep e8 hc (by simp), fin e8 hr⟩⟩⟩
          · exact newJ fun h8 hr e8 _ => ⟨r1 (q6.ext e8), r1 (q6.ext e8), cell_keep e8 hc2 (by simp), watch_spec hth hn' ⟨r1 (q6.ext e8), r1 (q6.ext e8), (q6.ext e8).watLd rfl hwl (fin e8 hr)⟩⟩
        · exact newJ fun h8 hr e8 _ => ⟨r1 (q6.ext e8), cell_keep e8 hc1 (by simp), r1 (q6.ext e8), cell_keep e8 hc2 (by simp), watch_spec hth hn' ⟨r1 (q6.ext e8), r1 (q6.ext e8), cell_keep e8 hc2 (by simp), watch_spec hth hn' ⟨r1 (q6.ext e8), r1 (q6.ext e8), (q6.ext e8).watLd rfl hwl (fin e8 hr)⟩⟩⟩
      · simp only [ge_iff_le, decide_eq_false_iff_not] at hp
        rw [w64 (by omega) (by omega)]
        rintro k' rfl
        refine ⟨⟨k + 1, by omega, by omega, by omega, fun i h1 h2 => ?_, e3.trans e4⟩, by omega⟩
        by_cases e : i = k
        · subst e; omega
        · exact hall i h1 (by omega)
    · simp only [decide_eq_false_iff_not] at hge
      have : k = (S.cl j).lits.length := by omega
      subst this
      refine q3.litLd (m := 0) rfl (by omega) ?_
      rw [hlit]
      have hth : There n (atI (fr S j gone) 0) := ffr.1 _ (at_mem (by rw [fr_len]; omega))
      have hthv : There S.val.length (atI (fr S j gone) 0) := by rw [t.vn]; exact hth
      refine Tell_spec q3 b1 tri1 (by show S.lev.length = S.val.length; rw [t.ln, t.vn]) (by show S.rea.length = S.val.length; rw [t.rn, t.vn]) (fun hc h4 e4 => ⟨fun _ => ?_, fun hc => by simp at hc⟩) (fun _ hv => absurd hv hno) (fun _ hv h4 x4 vs4 q4 t4 => ⟨fun hc => by simp at hc, fun _ => ?_⟩)
      · rcases hc with hc | hc
        · exact absurd hthv hc
        · exact KD hc hall h4 vs1 (q3.ext e4) (t3.trans (q3.toExt e4))
      · exact KC hv hall h4 x4 vs4 q4 (t3.trans t4)
end Go.Sh

namespace Go.Sh
open Go Go.Lift Go.Cla
variable {n : Nat} {S S0 : SS} {j m : Nat} {gone : Int} {left rest : List Int}
theorem setL_lit (S : SS) (j : Nat) (L : List Int) (i k : Nat) (hj : j < S.cls.length) : lit (setL S j L) i k = if i = j then atI L k else lit S i k := by
  unfold lit; rw [setL_cl _ _ _ _ hj]; split <;> rfl
theorem setL_clen (S : SS) (j : Nat) (L : List Int) : (setL S j L).cls.length = S.cls.length := by simp [setL]
theorem Tok.setL (t : Tok n S) (hj : j < S.cls.length) {L : List Int} (f : FitsL n L) : Tok n (setL S j L) :=
  { nb := t.nb, vn := t.vn, ln := t.ln, rn := t.rn, wn := t.wn, tri := t.tri, cn := by rw [setL_clen]; exact t.cn
    fit := fun i hi => by
      rw [setL_clen] at hi
      rw [setL_cl _ _ _ _ hj]
      split
      · exact f
      · exact t.fit i hi
    tt := t.tt, tn := t.tn, tv := t.tv, nx := t.nx, hn := t.hn }
theorem Tok.addW (t : Tok n S) (w : Nat) (y : Int) : Tok n (addW S w y) :=
  { nb := t.nb, vn := t.vn, ln := t.ln, rn := t.rn, wn := by rw [addW_len]; exact t.wn, tri := t.tri, cn := t.cn, fit := t.fit, tt := t.tt, tn := t.tn, tv := t.tv, nx := t.nx, hn := t.hn }
theorem vl_zero {V : List Int} {l : Int} (hth : There V.length l) (h : vl V l = 0) : atI V (tr l) = 0 := by
  unfold vl at h
  rw [if_pos hth] at h
  rcases sg_or l with g | g <;> rw [g] at h <;> omega
theorem at_app {l : List Int} {y : Int} {k : Nat} (hk : k < l.length) : atI (l ++ [y]) k = atI l k := by
  unfold atI
  rw [List.getD_eq_getElem?_getD, List.getD_eq_getElem?_getD, List.getElem?_append_left hk]
theorem at_last {l : List Int} {y : Int} : atI (l ++ [y]) l.length = y := by
  unfold atI
  rw [List.getD_eq_getElem?_getD]; simp
theorem sg_ne (l : Int) : sg l ≠ 0 := by rcases sg_or l with g | g <;> rw [g] <;> decide
theorem Tok.put (t : Tok n S) {l r : Int} (hth : There n l) (hv : vl S.val l = 0) : Tok n (putS S l r) := by
  have hz := vl_zero (by rw [t.vn]; exact hth) hv
  have hlt : tr l < S.val.length := by rw [t.vn]; exact hth.tr
  have hnew : ∀ l' ∈ S.tra, tr l' ≠ tr l := fun l' hl' e => by
    have := (t.tt l' hl').2
    rw [e, hz] at this
    exact sg_ne _ this.symm
  exact
  { nb := t.nb
    vn := by show (S.val.set _ _).length = n; rw [List.length_set]; exact t.vn
    ln := by show (S.lev.set _ _).length = n; rw [List.length_set]; exact t.ln
    rn := by show (S.rea.set _ _).length = n; rw [List.length_set]; exact t.rn
    wn := t.wn
    tri := fun y hy => by
      rcases List.mem_or_eq_of_mem_set hy with h | h
      · exact t.tri y h
      · rw [h]; rcases sg_or l with g | g <;> rw [g] <;> simp
    cn := t.cn, fit := t.fit
    tt := fun y hy => by
      show There n y ∧ atI (S.val.set _ _) _ = _
      rw [at_setL _ _ _ _ hlt]
      rcases List.mem_append.1 hy with h | h
      · rw [if_neg (hnew y h)]; exact t.tt y h
      · simp only [List.mem_singleton] at h; subst h; exact ⟨hth, if_pos rfl⟩
    tn := by
      show ((S.tra ++ [l]).map tr).Nodup
      rw [List.map_append, List.nodup_append]
      refine ⟨t.tn, by simp, fun a ha b hb e => ?_⟩
      simp only [List.map_cons, List.map_nil, List.mem_singleton] at hb
      obtain ⟨y, hy, e2⟩ := List.mem_map.1 ha
      exact hnew y hy (by rw [e2, e, hb])
    tv := fun v hv hne => by
      show ∃ y ∈ S.tra ++ [l], _
      have hne : atI (S.val.set (tr l) (sg l)) v ≠ 0 := hne
      rw [at_setL _ _ _ _ hlt] at hne
      by_cases e : v = tr l
      · exact ⟨l, by simp, e.symm⟩
      · rw [if_neg e] at hne
        obtain ⟨y, hy, e2⟩ := t.tv v hv hne
        exact ⟨y, List.mem_append_left _ hy, e2⟩
    nx := by show S.nxt ≤ (S.tra ++ [l]).length; have := t.nx; simp; omega
    hn := t.hn }
def C0 (S0 : SS) (c : List Int) : Prop := ∃ j, j < S0.cls.length ∧ c = (S0.cl j).lits
structure Rsn (S0 : SS) (T R L V : List Int) : Prop where
  rs : ∀ q, S0.tra.length ≤ q → q < T.length → ∃ j, j < S0.cls.length ∧ atI R (tr (atI T q)) = (j : Int) ∧ atI T q ∈ (S0.cl j).lits ∧ ∀ m ∈ (S0.cl j).lits, m ≠ atI T q → ∃ q', q' < q ∧ atI T q' = -m
  rk : ∀ l ∈ S0.tra, atI R (tr l) = atI S0.rea (tr l) ∧ atI L (tr l) = atI S0.lev (tr l)
  lv : ∀ q, S0.tra.length ≤ q → q < T.length → atI L (tr (atI T q)) = (S0.hea.length : Int)
  un : ∀ v, atI V v = 0 → atI R v = atI S0.rea v ∧ atI L v = atI S0.lev v
structure RI (n : Nat) (S0 S : SS) : Prop where
  t : Tok n S
  cl : S.cls.length = S0.cls.length
  sl : ∀ j, j < S0.cls.length → ∀ l, l ∈ (S.cl j).lits ↔ l ∈ (S0.cl j).lits
  lu : ∀ j, (S.cl j).learned = (S0.cl j).learned ∧ (S.cl j).use = (S0.cl j).use
  der : ∀ l ∈ S.tra, Der (C0 S0) (fun l => vl S0.val l = 1) l
  pre : ∃ u, S.tra = S0.tra ++ u
  hea : S.hea = S0.hea
  why : Rsn S0 S.tra S.rea S.lev S.val
theorem RI.setL (r : RI n S0 S) (hj : j < S.cls.length) {L : List Int} (f : FitsL n L) (hm : ∀ l, l ∈ L ↔ l ∈ (S.cl j).lits) : RI n S0 (setL S j L) :=
  { t := r.t.setL hj f, cl := by rw [setL_clen]; exact r.cl
    sl := fun i hi l => by
      rw [setL_cl _ _ _ _ hj]
      by_cases e : i = j
      · subst e; rw [if_pos rfl]; exact (hm l).trans (r.sl i hi l)
      · rw [if_neg e]; exact r.sl i hi l
    lu := fun i => by
      rw [setL_cl _ _ _ _ hj]
      by_cases e : i = j
      · subst e; rw [if_pos rfl]; exact r.lu i
      · rw [if_neg e]; exact r.lu i
    der := r.der, pre := r.pre, hea := r.hea, why := r.why }
theorem RI.addW (r : RI n S0 S) (w : Nat) (y : Int) : RI n S0 (addW S w y) := ⟨r.t.addW w y, r.cl, r.sl, r.lu, r.der, r.pre, r.hea, r.why⟩
theorem RI.put (r : RI n S0 S) {l rr : Int} (hth : There n l) (hv : vl S.val l = 0) (hd : Der (C0 S0) (fun l => vl S0.val l = 1) l) (hw : ∃ j, j < S0.cls.length ∧ rr = (j : Int) ∧ l ∈ (S0.cl j).lits ∧ ∀ m ∈ (S0.cl j).lits, m ≠ l → -m ∈ S.tra) : RI n S0 (putS S l rr) :=
  { t := r.t.put hth hv, cl := r.cl, sl := r.sl, lu := r.lu
    der := fun y hy => by
      rcases List.mem_append.1 (show y ∈ S.tra ++ [l] from hy) with h | h
      · exact r.der y h
      · simp only [List.mem_singleton] at h; subst h; exact hd
    pre := by obtain ⟨u, hu⟩ := r.pre; exact ⟨u ++ [l], by show S.tra ++ [l] = _; rw [hu, List.append_assoc]⟩
    hea := r.hea
    why := by
      have t := r.t
      have hz := vl_zero (by rw [t.vn]; exact hth) hv
      have hnew : ∀ l' ∈ S.tra, tr l' ≠ tr l := fun l' hl' e => by
        have := (t.tt l' hl').2
        rw [e, hz] at this
        exact sg_ne _ this.symm
      have hrl : tr l < S.rea.length := by rw [t.rn]; exact hth.tr
      have hll : tr l < S.lev.length := by rw [t.ln]; exact hth.tr
      have hvl : tr l < S.val.length := by rw [t.vn]; exact hth.tr
      have hin : ∀ y ∈ S0.tra, y ∈ S.tra := fun y hy => by obtain ⟨u, hu⟩ := r.pre; rw [hu]; exact List.mem_append_left _ hy
      obtain ⟨j, hj, rfl, hlj, hall⟩ := hw
      refine ⟨fun q h1 h2 => ?_, fun y hy => ?_, fun q h1 h2 => ?_, fun v hv' => ?_⟩
      · have h2 : q < (S.tra ++ [l]).length := h2
        show ∃ j', _ ∧ atI (S.rea.set (tr l) (j : Int)) (tr (atI (S.tra ++ [l]) q)) = _ ∧ _
        by_cases e : q = S.tra.length
        · subst e
          show ∃ j', _ ∧ _ ∧ atI (S.tra ++ [l]) S.tra.length ∈ _ ∧ ∀ m ∈ _, m ≠ atI (S.tra ++ [l]) S.tra.length → ∃ q', q' < S.tra.length ∧ atI (S.tra ++ [l]) q' = -m
          rw [at_last, at_setL _ _ _ _ hrl, if_pos rfl]
          refine ⟨j, hj, rfl, hlj, fun m hm hne => ?_⟩
          obtain ⟨q', hq', e2⟩ := mem_at (hall m hm hne)
          exact ⟨q', hq', by rw [at_app hq']; exact e2⟩
        · have hq : q < S.tra.length := by simp at h2; omega
          show ∃ j', _ ∧ _ ∧ atI (S.tra ++ [l]) q ∈ _ ∧ ∀ m ∈ _, m ≠ atI (S.tra ++ [l]) q → ∃ q', q' < q ∧ atI (S.tra ++ [l]) q' = -m
          rw [at_app hq, at_setL _ _ _ _ hrl, if_neg (hnew _ (at_mem hq))]
          obtain ⟨j', g1, g2, g3, g4⟩ := r.why.rs q h1 hq
          refine ⟨j', g1, g2, g3, fun m hm hne => ?_⟩
          obtain ⟨q', hq', e2⟩ := g4 m hm hne
          exact ⟨q', hq', by rw [at_app (by omega)]; exact e2⟩
      · show atI (S.rea.set _ _) _ = _ ∧ atI (S.lev.set _ _) _ = _
        rw [at_setL _ _ _ _ hrl, at_setL _ _ _ _ hll, if_neg (hnew _ (hin y hy)), if_neg (hnew _ (hin y hy))]
        exact r.why.rk y hy
      · have h2 : q < (S.tra ++ [l]).length := h2
        show atI (S.lev.set (tr l) (S.hea.length : Int)) (tr (atI (S.tra ++ [l]) q)) = _
        by_cases e : q = S.tra.length
        · subst e
          rw [at_last, at_setL _ _ _ _ hll, if_pos rfl, r.hea]
        · have hq : q < S.tra.length := by simp at h2; omega
          rw [at_app hq, at_setL _ _ _ _ hll, if_neg (hnew _ (at_mem hq))]
          exact r.why.lv q h1 hq
      · have hv' : atI (S.val.set (tr l) (sg l)) v = 0 := hv'
        rw [at_setL _ _ _ _ hvl] at hv'
        have hne : v ≠ tr l := fun e => by rw [if_pos e] at hv'; exact sg_ne _ hv'
        rw [if_neg hne] at hv'
        show atI (S.rea.set _ _) _ = _ ∧ atI (S.lev.set _ _) _ = _
        rw [at_setL _ _ _ _ hrl, at_setL _ _ _ _ hll, if_neg hne, if_neg hne]
        exact r.why.un v hv' }
structure RIn (n : Nat) (S0 S : SS) (m : Nat) (gone : Int) (left rest : List Int) : Prop where
  ri : RI n S0 S
  nx : S.nxt = m + 1
  mt : m < S.tra.length
  ga : atI S.tra m = -gone
  gth : There n gone
  w : Wok n S (fun w => if w = wch gone then left ++ rest else S.wt w)
  we : S.wt (wch gone) = []
  p : Proc S (m + 1) (fun j k => k = m ∧ (j : Int) ∈ rest)
  hd : ∀ hd ∈ S.hea, hd ≤ (m : Int)
theorem Wok.swap {W : Nat → List Int} (k : Wok n S W) (hj : j < S.cls.length) {L : List Int} (h : (atI L 0 = lit S j 0 ∧ atI L 1 = lit S j 1) ∨ (atI L 0 = lit S j 1 ∧ atI L 1 = lit S j 0)) : Wok n (setL S j L) W := by
  refine ⟨by rw [setL_clen]; exact k.rng, fun w hw i hi => ?_⟩
  rw [setL_clen] at hi
  have : watches (setL S j L) i w ↔ watches S i w := by
    unfold watches
    rw [setL_lit _ _ _ _ _ hj, setL_lit _ _ _ _ _ hj]
    by_cases e : i = j
    · subst e
      rw [if_pos rfl, if_pos rfl]
      rcases h with ⟨h1, h2⟩ | ⟨h1, h2⟩
      · rw [h1, h2]
      · rw [h1, h2, Or.comm]
    · rw [if_neg e, if_neg e]
  rw [k.cnt w hw i hi]
  by_cases hwt : watches S i w
  · rw [if_pos hwt, if_pos (this.2 hwt)]
  · rw [if_neg hwt, if_neg (fun h => hwt (this.1 h))]
theorem Proc.swap {ex : Nat → Nat → Prop} (p : Proc S m ex) (hj : j < S.cls.length) {L : List Int} (h : (atI L 0 = lit S j 0 ∧ atI L 1 = lit S j 1) ∨ (atI L 0 = lit S j 1 ∧ atI L 1 = lit S j 0)) : Proc (setL S j L) m ex := by
  intro i hi k hk hex
  rw [setL_clen] at hi
  rw [setL_lit _ _ _ _ _ hj, setL_lit _ _ _ _ _ hj]
  have := p i hi k hk hex
  by_cases e : i = j
  · subst e
    rw [if_pos rfl, if_pos rfl]
    rcases h with ⟨h1, h2⟩ | ⟨h1, h2⟩
    · rw [h1, h2]; exact this
    · rw [h1, h2]; exact ⟨this.2, this.1⟩
  · rw [if_neg e, if_neg e]; exact this
section
variable {rest' : List Int}
theorem RIn.here (r : RIn n S0 S m gone left ((j : Int) :: rest')) (hj : j < S.cls.length) : watches S j (wch gone) ∧ (j : Int) ∉ left ∧ (j : Int) ∉ rest' := by
  have h1 := r.w.cnt (wch gone) (wch_lt r.gth) j hj
  simp only [if_true] at h1
  rw [List.count_append, List.count_cons_self] at h1
  by_cases hw : watches S j (wch gone)
  · rw [if_pos hw] at h1
    exact ⟨hw, fun hm => by have := List.count_pos_iff.2 hm; omega, fun hm => by have := List.count_pos_iff.2 hm; omega⟩
  · rw [if_neg hw] at h1; omega
theorem RIn.pair (r : RIn n S0 S m gone left ((j : Int) :: rest')) (hj : j < S.cls.length) : FitsL n (fr S j gone) ∧ atI (fr S j gone) 1 = gone ∧ (∀ l, l ∈ fr S j gone ↔ l ∈ (S.cl j).lits) ∧
    ((atI (fr S j gone) 0 = lit S j 0 ∧ atI (fr S j gone) 1 = lit S j 1) ∨ (atI (fr S j gone) 0 = lit S j 1 ∧ atI (fr S j gone) 1 = lit S j 0)) := by
  have f := r.ri.t.fit j hj
  have h2 := f.2.2
  have h0 := (r.here hj).1
  have n0 : (lit S j 0) ≠ 0 := (f.at (S := S) (j := j) (by omega)).1
  have n1 : (lit S j 1) ≠ 0 := (f.at (S := S) (j := j) (by omega)).1
  unfold fr
  by_cases e : lit S j 0 = gone
  · rw [if_pos e]
    have a0 : atI (swapL (S.cl j).lits 0 1) 0 = lit S j 1 := by rw [at_swapL (by omega) (by omega), if_pos rfl]; rfl
    have a1 : atI (swapL (S.cl j).lits 0 1) 1 = lit S j 0 := by rw [at_swapL (by omega) (by omega), if_neg (by decide), if_pos rfl]; rfl
    exact ⟨fits_swapL f (by omega) (by omega), by rw [a1, e], mem_swapL (by omega) (by omega), .inr ⟨a0, a1⟩⟩
  · rw [if_neg e]
    refine ⟨f, ?_, fun _ => Iff.rfl, .inl ⟨rfl, rfl⟩⟩
    rcases h0 with h | h
    · exact absurd (wch_inj n0 r.gth.1 h) e
    · exact wch_inj n1 r.gth.1 h
theorem RIn.kept (r : RIn n S0 S m gone left ((j : Int) :: rest')) (hj : j < S.cls.length) (hv : vl S.val (atI (fr S j gone) 0) = 1) : RIn n S0 (setL S j (fr S j gone)) m gone (left ++ [(j : Int)]) rest' := by
  obtain ⟨f, g1, hm, hp⟩ := r.pair hj
  have W := r.w.swap hj hp
  have P := r.p.swap hj hp
  refine ⟨r.ri.setL hj f hm, r.nx, r.mt, r.ga, r.gth, ?_, r.we, ?_, r.hd⟩
  · have W2 : Wok n (setL S j (fr S j gone)) (fun w => if w = wch gone then left ++ [(j : Int)] ++ rest' else S.wt w) := by simpa using W
    exact W2
  · intro i hi k hk hex
    by_cases e : i = j ∧ k = m
    · obtain ⟨rfl, rfl⟩ := e
      have hlate : NotLate (setL S i (fr S i gone)) k (atI (fr S i gone) 0) := by
        obtain ⟨q, hq, e2⟩ := mem_at (r.ri.t.vl_iff.1 hv)
        refine ⟨q, hq, e2, fun hd hh hlt => ?_⟩
        have := r.hd hd hh; omega
      rw [setL_lit _ _ _ _ _ hj, setL_lit _ _ _ _ _ hj, if_pos rfl, if_pos rfl, g1]
      refine ⟨fun e3 => ?_, fun _ => hlate⟩
      have e4 : atI S.tra k = - atI (fr S i gone) 0 := e3
      rw [r.ga] at e4
      have : atI (fr S i gone) 0 ≠ atI (fr S i gone) 1 := f.ne (by have := f.2.2; omega) (by have := f.2.2; omega) (by decide)
      rw [g1] at this
      exact absurd (by omega) this
    · refine P i hi k hk fun ⟨hk2, hmem⟩ => ?_
      rcases List.mem_cons.1 hmem with h | h
      · exact e ⟨by omega, hk2⟩
      · exact hex ⟨hk2, h⟩
theorem NotLate.put {l r : Int} {k : Nat} {y : Int} (h : NotLate S k y) : NotLate (putS S l r) k y := by
  obtain ⟨q, hq, e, h3⟩ := h
  exact ⟨q, by show q < (S.tra ++ [l]).length; simp; omega, by show atI (S.tra ++ [l]) q = y; rw [at_app hq]; exact e, h3⟩
theorem RIn.unit (r : RIn n S0 S m gone left ((j : Int) :: rest')) (hj : j < S.cls.length) (hv : vl S.val (atI (fr S j gone) 0) = 0) (hall : ∀ k, 2 ≤ k → k < (S.cl j).lits.length → vl S.val (atI (fr S j gone) k) = -1) :
    RIn n S0 (putS (setL S j (fr S j gone)) (atI (fr S j gone) 0) j) m gone (left ++ [(j : Int)]) rest' := by
  obtain ⟨f, g1, hm, hp⟩ := r.pair hj
  have h2 := f.2.2
  have W := r.w.swap hj hp
  have P := r.p.swap hj hp
  have hth : There n (atI (fr S j gone) 0) := f.1 _ (at_mem (by omega))
  have ri1 := r.ri.setL hj f hm
  have hgone : -gone ∈ S.tra := by rw [← r.ga]; exact at_mem r.mt
  have hj0 : j < S0.cls.length := by rw [← r.ri.cl]; exact hj
  have hin : atI (fr S j gone) 0 ∈ (S0.cl j).lits := (r.ri.sl j hj0 _).1 ((hm _).1 (at_mem (by omega)))
  have hoth : ∀ y ∈ (S0.cl j).lits, y ≠ atI (fr S j gone) 0 → -y ∈ S.tra := by
    intro y hy hne
    have hy2 := (hm y).2 ((r.ri.sl j hj0 y).2 hy)
    obtain ⟨q, hq, e⟩ := mem_at hy2
    by_cases e0 : q = 0
    · subst e0; exact absurd e.symm hne
    · by_cases e1 : q = 1
      · subst e1; rw [← e, g1]; exact hgone
      · have := hall q (by omega) (by rw [fr_len] at hq; exact hq)
        rw [e] at this
        exact r.ri.t.vlf_iff.1 this
  have hder : Der (C0 S0) (fun l => vl S0.val l = 1) (atI (fr S j gone) 0) := .unit ⟨j, hj0, rfl⟩ hin fun y hy hne => r.ri.der _ (hoth y hy hne)
  have hml : m < S.tra.length := r.mt
  refine ⟨ri1.put hth hv hder ⟨j, hj0, rfl, hin, hoth⟩, r.nx, by show m < (S.tra ++ [_]).length; simp; omega, by show atI (S.tra ++ [_]) m = _; rw [at_app hml]; exact r.ga, r.gth, ?_, r.we, ?_, r.hd⟩
  · have W2 : Wok n (setL S j (fr S j gone)) (fun w => if w = wch gone then left ++ [(j : Int)] ++ rest' else S.wt w) := by simpa using W
    exact ⟨W2.rng, W2.cnt⟩
  · intro i hi k hk hex
    have hka : atI (putS (setL S j (fr S j gone)) (atI (fr S j gone) 0) j).tra k = atI S.tra k := by
      show atI (S.tra ++ [_]) k = _
      exact at_app (by omega)
    rw [hka]
    by_cases e : i = j ∧ k = m
    · obtain ⟨rfl, rfl⟩ := e
      have hlate : NotLate (putS (setL S i (fr S i gone)) (atI (fr S i gone) 0) i) k (atI (fr S i gone) 0) := by
        refine ⟨S.tra.length, by show _ < (S.tra ++ [_]).length; simp, by show atI (S.tra ++ [_]) S.tra.length = _; exact at_last, fun hd hh hlt => ?_⟩
        have := r.hd hd hh; omega
      have hl : ∀ u, lit (putS (setL S i (fr S i gone)) (atI (fr S i gone) 0) i) i u = atI (fr S i gone) u := fun u => by
        show lit (setL S i (fr S i gone)) i u = _
        rw [setL_lit _ _ _ _ _ hj, if_pos rfl]
      rw [hl, hl, g1]
      refine ⟨fun e4 => ?_, fun _ => hlate⟩
      rw [r.ga] at e4
      have : atI (fr S i gone) 0 ≠ atI (fr S i gone) 1 := f.ne (by omega) (by omega) (by decide)
      rw [g1] at this
      exact absurd (by omega) this
    · have := P i hi k hk fun ⟨hk2, hmem⟩ => by
        rcases List.mem_cons.1 hmem with h | h
        · exact e ⟨by omega, hk2⟩
        · exact hex ⟨hk2, h⟩
      exact ⟨fun e4 => (this.1 e4).put, fun e4 => (this.2 e4).put⟩
theorem RIn.moved (r : RIn n S0 S m gone left ((j : Int) :: rest')) (hj : j < S.cls.length) {k : Nat} (hk2 : 2 ≤ k) (hk : k < (S.cl j).lits.length) (hv : vl S.val (atI (fr S j gone) k) ≠ -1) :
    RIn n S0 (addW (setL S j (swapL (fr S j gone) 1 k)) (wch (atI (fr S j gone) k)) j) m gone left rest' := by
  obtain ⟨f, g1, hm, hp⟩ := r.pair hj
  have h2 := f.2.2
  have hl := fr_len S j gone
  have hkl : k < (fr S j gone).length := by omega
  have f2 : FitsL n (swapL (fr S j gone) 1 k) := fits_swapL f (by omega) hkl
  have hm2 : ∀ l, l ∈ swapL (fr S j gone) 1 k ↔ l ∈ (S.cl j).lits := fun l => (mem_swapL (by omega) hkl l).trans (hm l)
  have a0 : atI (swapL (fr S j gone) 1 k) 0 = atI (fr S j gone) 0 := by rw [at_swapL (by omega) hkl, if_neg (by decide), if_neg (by omega)]
  have a1 : atI (swapL (fr S j gone) 1 k) 1 = atI (fr S j gone) k := by rw [at_swapL (by omega) hkl, if_pos rfl]
  have ri1 := (r.ri.setL hj f2 hm2).addW (wch (atI (fr S j gone) k)) j
  have hth : There n (atI (fr S j gone) k) := f.1 _ (at_mem hkl)
  have hth0 : There n (atI (fr S j gone) 0) := f.1 _ (at_mem (by omega))
  have hwl : wch (atI (fr S j gone) k) < S.wat.length := by rw [r.ri.t.wn]; exact wch_lt hth
  have nek1 : atI (fr S j gone) k ≠ gone := fun e => f.ne hkl (by omega : 1 < _) (by omega : k ≠ 1) (e.trans g1.symm)
  have hk0 : k ≠ 0 := by omega
  have hk1 : k ≠ 1 := by omega
  have h1l : 1 < (fr S j gone).length := by omega
  have nek0 : atI (fr S j gone) k ≠ atI (fr S j gone) 0 := f.ne hkl (by omega) hk0
  have ne01 : atI (fr S j gone) 0 ≠ gone := fun e => f.ne (by omega : 0 < _) (by omega : 1 < _) (by decide : (0 : Nat) ≠ 1) (e.trans g1.symm)
  have wk1 : wch (atI (fr S j gone) k) ≠ wch gone := fun e => nek1 (wch_inj hth.1 r.gth.1 e)
  have wk0 : wch (atI (fr S j gone) k) ≠ wch (atI (fr S j gone) 0) := fun e => nek0 (wch_inj hth.1 hth0.1 e)
  have w01 : wch (atI (fr S j gone) 0) ≠ wch gone := fun e => ne01 (wch_inj hth0.1 r.gth.1 e)
  have hwt : ∀ w, (addW (setL S j (swapL (fr S j gone) 1 k)) (wch (atI (fr S j gone) k)) j).wt w = if w = wch (atI (fr S j gone) k) then S.wt w ++ [(j : Int)] else S.wt w := fun w => by
    refine (addW_wt (setL S j (swapL (fr S j gone) 1 k)) _ _ w hwl).trans ?_
    by_cases e : w = wch (atI (fr S j gone) k)
    · rw [if_pos e, if_pos e, e]; rfl
    · rw [if_neg e, if_neg e]; rfl
  have hwatch : ∀ i w, watches (addW (setL S j (swapL (fr S j gone) 1 k)) (wch (atI (fr S j gone) k)) j) i w ↔ if i = j then wch (atI (fr S j gone) 0) = w ∨ wch (atI (fr S j gone) k) = w else watches S i w := fun i w => by
    show watches (setL S j (swapL (fr S j gone) 1 k)) i w ↔ _
    unfold watches
    rw [setL_lit _ _ _ _ _ hj, setL_lit _ _ _ _ _ hj]
    by_cases e : i = j
    · rw [if_pos e, if_pos e, if_pos e, a0, a1]
    · rw [if_neg e, if_neg e, if_neg e]
  have hold : ∀ w, watches S j w ↔ wch (atI (fr S j gone) 0) = w ∨ wch gone = w := fun w => by
    unfold watches
    rcases hp with ⟨h1, h3⟩ | ⟨h1, h3⟩
    · rw [← h1, ← h3, g1]
    · rw [← h1, ← h3, g1, Or.comm]
  obtain ⟨_, nl, nr⟩ := r.here hj
  have hcl : (addW (setL S j (swapL (fr S j gone) 1 k)) (wch (atI (fr S j gone) k)) j).cls.length = S.cls.length := setL_clen _ _ _
  refine ⟨ri1, r.nx, r.mt, r.ga, r.gth, ⟨fun w hw y hy => ?_, fun w hw i hi => ?_⟩, ?_, ?_, r.hd⟩
  · rw [hcl]
    by_cases e : w = wch gone
    · simp only [if_pos e] at hy
      refine r.w.rng w hw y ?_
      simp only [if_pos e]
      rcases List.mem_append.1 hy with h | h
      · exact List.mem_append_left _ h
      · exact List.mem_append_right _ (List.mem_cons_of_mem _ h)
    · simp only [if_neg e] at hy
      rw [hwt] at hy
      have key := r.w.rng w hw
      simp only [if_neg e] at key
      split at hy
      · rcases List.mem_append.1 hy with h | h
        · exact key y h
        · simp only [List.mem_singleton] at h; exact ⟨j, hj, h⟩
      · exact key y hy
  · rw [hcl] at hi
    have key := r.w.cnt w hw i hi
    by_cases e : w = wch gone
    · simp only [if_pos e] at key ⊢
      rw [List.count_append] at key ⊢
      rw [List.count_cons] at key
      by_cases ei : i = j
      · subst ei
        have h1 : ¬ watches (addW (setL S i (swapL (fr S i gone) 1 k)) (wch (atI (fr S i gone) k)) i) i w := by
          rw [hwatch, if_pos rfl, e]
          rintro (h | h)
          · exact w01 h
          · exact wk1 h
        rw [if_neg h1, List.count_eq_zero_of_not_mem nl, List.count_eq_zero_of_not_mem nr]
      · have h1 : watches (addW (setL S j (swapL (fr S j gone) 1 k)) (wch (atI (fr S j gone) k)) j) i w ↔ watches S i w := by rw [hwatch, if_neg ei]
        have h3 : ((j : Int) == (i : Int)) = false := by simp; omega
        rw [h3] at key
        simp only [Bool.false_eq_true, if_false, Nat.add_zero] at key
        by_cases hw2 : watches S i w
        · rw [if_pos (h1.2 hw2)]; rw [if_pos hw2] at key; exact key
        · rw [if_neg (fun h => hw2 (h1.1 h))]; rw [if_neg hw2] at key; exact key
    · simp only [if_neg e] at key ⊢
      rw [hwt]
      by_cases ew : w = wch (atI (fr S j gone) k)
      · rw [if_pos ew, List.count_append, key]
        by_cases ei : i = j
        · subst ei
          have h1 : watches (addW (setL S i (swapL (fr S i gone) 1 k)) (wch (atI (fr S i gone) k)) i) i w := by rw [hwatch, if_pos rfl]; exact .inr ew.symm
          have h3 : ¬ watches S i w := by
            rw [hold]
            rintro (h | h)
            · exact wk0 (ew.symm.trans h.symm)
            · exact e h.symm
          rw [if_pos h1, if_neg h3]; simp
        · have h1 : watches (addW (setL S j (swapL (fr S j gone) 1 k)) (wch (atI (fr S j gone) k)) j) i w ↔ watches S i w := by rw [hwatch, if_neg ei]
          have h3 : List.count (i : Int) [(j : Int)] = 0 := List.count_eq_zero_of_not_mem (by simp; omega)
          rw [h3, Nat.add_zero]
          by_cases hw2 : watches S i w
          · rw [if_pos (h1.2 hw2), if_pos hw2]
          · rw [if_neg (fun h => hw2 (h1.1 h)), if_neg hw2]
      · rw [if_neg ew, key]
        by_cases ei : i = j
        · subst ei
          have h1 : watches (addW (setL S i (swapL (fr S i gone) 1 k)) (wch (atI (fr S i gone) k)) i) i w ↔ watches S i w := by
            rw [hwatch, if_pos rfl, hold]
            constructor
            · rintro (h | h)
              · exact .inl h
              · exact absurd h.symm ew
            · rintro (h | h)
              · exact .inl h
              · exact absurd h.symm e
          by_cases hw2 : watches S i w
          · rw [if_pos (h1.2 hw2), if_pos hw2]
          · rw [if_neg (fun h => hw2 (h1.1 h)), if_neg hw2]
        · have h1 : watches (addW (setL S j (swapL (fr S j gone) 1 k)) (wch (atI (fr S j gone) k)) j) i w ↔ watches S i w := by rw [hwatch, if_neg ei]
          by_cases hw2 : watches S i w
          · rw [if_pos (h1.2 hw2), if_pos hw2]
          · rw [if_neg (fun h => hw2 (h1.1 h)), if_neg hw2]
  · rw [hwt, if_neg wk1.symm]; exact r.we
  · intro i hi k' hk' hex
    rw [hcl] at hi
    have hli : ∀ u, lit (addW (setL S j (swapL (fr S j gone) 1 k)) (wch (atI (fr S j gone) k)) j) i u = if i = j then atI (swapL (fr S j gone) 1 k) u else lit S i u := fun u => by
      show lit (setL S j (swapL (fr S j gone) 1 k)) i u = _
      exact setL_lit _ _ _ _ _ hj
    rw [hli, hli]
    by_cases ei : i = j
    · subst ei
      rw [if_pos rfl, if_pos rfl, a0, a1]
      have hgone : -gone ∈ S.tra := by rw [← r.ga]; exact at_mem r.mt
      refine ⟨fun e4 => ?_, fun e4 => ?_⟩
      · exfalso
        have e5 : atI S.tra k' = - atI (fr S i gone) 0 := e4
        have hkm : k' ≠ m := fun e6 => by
          rw [e6, r.ga] at e5
          exact ne01 (by omega)
        have hpi := r.p i hi k' hk' (fun h => hkm h.1)
        have hnl : NotLate S k' gone := by
          rcases hp with ⟨h1, h3⟩ | ⟨h1, h3⟩
          · rw [← h1, ← h3, g1] at hpi; exact hpi.1 e5
          · rw [← h1, ← h3, g1] at hpi; exact hpi.2 e5
        obtain ⟨q, hq, e7, _⟩ := hnl
        have : gone ∈ S.tra := by rw [← e7]; exact at_mem hq
        have h8 := r.ri.t.vl_iff.2 this
        have h9 := r.ri.t.vl_iff.2 hgone
        rw [vl_neg] at h9
        omega
      · exfalso
        have e5 : atI S.tra k' = - atI (fr S i gone) k := e4
        have hlt : k' < S.tra.length := by have := r.mt; omega
        refine hv (r.ri.t.vlf_iff.2 ?_)
        rw [← e5]; exact at_mem hlt
    · rw [if_neg ei, if_neg ei]
      refine r.p i hi k' hk' fun ⟨h1, h3⟩ => ?_
      rcases List.mem_cons.1 h3 with h | h
      · exact ei (by omega)
      · exact hex ⟨h1, h⟩
end
end Go.Sh

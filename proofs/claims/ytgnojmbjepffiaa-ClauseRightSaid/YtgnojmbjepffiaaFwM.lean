/-
  Laws that the proof of this claim's statement leans on, each proved under the conditions that it states.
-/
import Derived.Test.YtgnojmbjepffiaaFwD
import Derived.Scope
set_option linter.unusedVariables false
set_option linter.unusedSimpArgs false
namespace Go.Lift
open Go

/-- Entries of a map: keys, each once, with what they have; and their stamps. -/
structure Ents (kd : IntKind) (es : Array MapEntry) (c : Nat) (f : List (Int × Value)) : Prop where
  all : es.toList.map (fun e => (e.key, e.val)) = f.map (fun p => (Value.int kd p.1, p.2))
  born : (es.toList.map (·.born)).Nodup
  clock : ∀ e ∈ es.toList, e.born < c
  keys : (f.map (·.1)).Nodup
def mapEs (kd : IntKind) (h : Heap) (x : Option Nat) (f : List (Int × Value)) : Prop :=
  match x with
  | none => f = []
  | some r => ∃ es c, h[r]? = some (.map es c) ∧ Ents kd es c f
def vals {α : Type} (toV : α → Value) (f : List (Int × α)) : List (Int × Value) := f.map fun p => (p.1, toV p.2)
def updM {α : Type} : List (Int × α) → Int → α → List (Int × α)
  | [], k, v => [(k, v)]
  | p :: r, k, v => if k == p.1 then (p.1, v) :: r else p :: updM r k v
def addM {α : Type} (f : List (Int × α)) (k : Int) (v : α) : List (Int × α) := if (f.lookup k).isSome then f else f ++ [(k, v)]

def newM (h : Heap) (k : Option Nat → Heap → Prop) : Prop := k (some h.size) (h.push (.map #[] 0))
def lookM {α : Type} (kd : IntKind) (toV : α → Value) (zero : α) (x : Option Nat) (key : Int) (h : Heap) (k : α × Bool → Prop) : Prop :=
  ∃ (f : List (Int × α)) (r : α × Bool), mapEs kd h x (vals toV f) ∧ (match f.lookup key with | some v => (v, true) | none => (zero, false)) = r ∧ k r
def setM {α : Type} (kd : IntKind) (toV : α → Value) (x : Option Nat) (key : Int) (v : α) (h : Heap) (k : Heap → Prop) : Prop :=
  ∃ (r : Nat) (f : List (Int × α)), x = some r ∧ mapEs kd h (some r) (vals toV f) ∧ ∀ es c, Ents kd es c (vals toV (updM f key v)) → k (h.setIfInBounds r (.map es c))
def Stamped (kd : IntKind) (es : Array MapEntry) (key : Int) (st : Int) : Prop := ∃ (i : Nat) (e : MapEntry), es[i]? = some e ∧ e.key = Value.int kd key ∧ (e.born : Int) = st
def entryM {α : Type} (kd : IntKind) (toV : α → Value) (zero : α) (x : Option Nat) (key : Int) (h : Heap) (k : α × Int → Heap → Prop) : Prop :=
  ∃ (r : Nat) (f : List (Int × α)), x = some r ∧ mapEs kd h (some r) (vals toV f) ∧ ∀ es c st, Ents kd es c (vals toV (addM f key zero)) → Stamped kd es key st → k ((f.lookup key).getD zero, st) (h.setIfInBounds r (.map es c))
def entryS {α : Type} (kd : IntKind) (toV : α → Value) (x : Option Nat) (st : Int) (v : α) (h : Heap) (k : Heap → Prop) : Prop :=
  ∃ (r : Nat) (es : Array MapEntry) (c : Nat) (f : List (Int × α)) (key : Int), x = some r ∧ h[r]? = some (.map es c) ∧ Ents kd es c (vals toV f) ∧ Stamped kd es key st ∧
    ∀ es', Ents kd es' c (vals toV (updM f key v)) → k (h.setIfInBounds r (.map es' c))
def lenM (x : Option Nat) (h : Heap) (k : Int → Prop) : Prop :=
  match x with
  | none => k 0
  | some r => ∃ es c, h[r]? = some (.map es c) ∧ k (es.size : Int)

/-! ### What is so of lists of keys -/
section
variable {α : Type} {toV : α → Value}
theorem lookup_updM (f : List (Int × α)) (k j : Int) (v : α) : (updM f k v).lookup j = if j == k then some v else f.lookup j := by
  induction f with
  | nil => simp only [updM, List.lookup]; split <;> simp_all
  | cons p r ih =>
    obtain ⟨a, b⟩ := p
    simp only [updM]
    by_cases e : k = a
    · subst e
      simp only [beq_self_eq_true, if_true, List.lookup]
      by_cases e2 : j = k
      · subst e2; simp
      · have : (j == k) = false := by simpa using e2
        simp [this]
    · have e0 : (k == a) = false := by simpa using e
      rw [e0]
      simp only [Bool.false_eq_true, if_false, List.lookup]
      by_cases e2 : j = a
      · subst e2
        have : (j == k) = false := by simpa using fun h => e h.symm
        simp [this]
      · have : (j == a) = false := by simpa using e2
        simp [this, ih]
theorem lookup_append1 (f : List (Int × α)) (k j : Int) (v : α) (hk : f.lookup k = none) : (f ++ [(k, v)]).lookup j = if j == k then some v else f.lookup j := by
  induction f with
  | nil => simp only [List.nil_append, List.lookup]; split <;> simp_all
  | cons p r ih =>
    obtain ⟨a, b⟩ := p
    simp only [List.lookup] at hk
    split at hk
    · cases hk
    · rename_i h1
      simp only [List.cons_append, List.lookup, ih hk]
      by_cases e2 : j = a
      · subst e2
        have : (j == k) = false := by
          have := h1
          simp at this ⊢
          exact fun h => this h.symm
        simp [this]
      · have : (j == a) = false := by simpa using e2
        simp [this]
theorem lookup_addM (f : List (Int × α)) (k j : Int) (v : α) : (addM f k v).lookup j = if j == k then some ((f.lookup k).getD v) else f.lookup j := by
  unfold addM
  cases hl : f.lookup k with
  | none =>
    simp only [Option.isSome_none, Bool.false_eq_true, if_false, Option.getD_none]
    exact lookup_append1 f k j v hl
  | some u =>
    simp only [Option.isSome_some, if_true, Option.getD_some]
    by_cases e : j = k
    · subst e; simp [hl]
    · have : (j == k) = false := by simpa using e
      simp [this]
theorem mem_lookup {f : List (Int × α)} {k : Int} {v : α} (h : f.lookup k = some v) : (k, v) ∈ f := by
  induction f with
  | nil => simp at h
  | cons p r ih =>
    obtain ⟨a, b⟩ := p
    simp only [List.lookup] at h
    split at h
    · rename_i h1
      have : k = a := by simpa using h1
      cases h; subst this
      exact List.mem_cons_self ..
    · exact List.mem_cons_of_mem _ (ih h)
theorem lookup_none {f : List (Int × α)} {k : Int} (h : f.lookup k = none) : k ∉ f.map (·.1) := by
  induction f with
  | nil => simp
  | cons p r ih =>
    obtain ⟨a, b⟩ := p
    simp only [List.lookup] at h
    split at h
    · cases h
    · rename_i h1
      simp only [List.map_cons, List.mem_cons, not_or]
      exact ⟨by simpa using h1, ih h⟩
theorem updM_new {f : List (Int × α)} {k : Int} {v : α} (h : f.lookup k = none) : updM f k v = f ++ [(k, v)] := by
  induction f with
  | nil => rfl
  | cons p r ih =>
    obtain ⟨a, b⟩ := p
    simp only [List.lookup] at h
    split at h
    · cases h
    · rename_i h1
      simp only [updM, h1, Bool.false_eq_true, if_false, ih h, List.cons_append]
theorem updM_keys {f : List (Int × α)} {k : Int} {v : α} (hk : (f.lookup k).isSome) : (updM f k v).map (·.1) = f.map (·.1) := by
  induction f with
  | nil => simp at hk
  | cons p r ih =>
    obtain ⟨a, b⟩ := p
    simp only [updM]
    split
    · rfl
    · rename_i h1
      simp only [List.lookup] at hk
      split at hk
      · rename_i h2; rw [h2] at h1; exact absurd rfl h1
      · simp [ih hk]
/-- The place of a key. -/
def findM : List (Int × α) → Int → Nat → Option (Nat × α)
  | [], _, _ => none
  | p :: r, k, i => if k == p.1 then some (i, p.2) else findM r k (i + 1)
theorem findM_lookup (f : List (Int × α)) (k : Int) : ∀ i, (findM f k i).map (·.2) = f.lookup k := by
  induction f with
  | nil => intro i; rfl
  | cons p r ih =>
    intro i
    obtain ⟨a, b⟩ := p
    simp only [findM, List.lookup]
    by_cases e : k = a
    · subst e; simp
    · have : (k == a) = false := by simpa using e
      simp [this, ih]
theorem findM_spec (f : List (Int × α)) (k : Int) : ∀ i j v, findM f k i = some (j, v) → i ≤ j ∧ f[j - i]? = some (k, v) ∧ ∀ u, updM f k u = f.set (j - i) (k, u) := by
  induction f with
  | nil => intro i j v h; cases h
  | cons p r ih =>
    intro i j v h
    obtain ⟨a, b⟩ := p
    simp only [findM] at h
    by_cases e : k = a
    · subst e
      simp only [beq_self_eq_true, if_true, Option.some.injEq, Prod.mk.injEq] at h
      obtain ⟨rfl, rfl⟩ := h
      refine ⟨Nat.le_refl _, by simp, fun u => ?_⟩
      simp [updM]
    · have e0 : (k == a) = false := by simpa using e
      rw [e0] at h
      simp only [Bool.false_eq_true, if_false] at h
      obtain ⟨h1, h2, h3⟩ := ih _ _ _ h
      have hj : j - i = (j - (i + 1)) + 1 := by omega
      refine ⟨by omega, by rw [hj, List.getElem?_cons_succ]; exact h2, fun u => ?_⟩
      rw [hj, List.set_cons_succ]
      simp only [updM, e0, Bool.false_eq_true, if_false, h3 u]
theorem vals_updM (f : List (Int × α)) (k : Int) (v : α) : vals toV (updM f k v) = updM (vals toV f) k (toV v) := by
  induction f with
  | nil => rfl
  | cons p r ih =>
    simp only [vals, updM, List.map_cons]
    split
    · rfl
    · simp only [List.map_cons, List.cons.injEq, true_and]; exact ih
theorem vals_lookup (f : List (Int × α)) (k : Int) : (vals toV f).lookup k = (f.lookup k).map toV := by
  induction f with
  | nil => rfl
  | cons p r ih =>
    obtain ⟨a, b⟩ := p
    simp only [vals, List.map_cons, List.lookup]
    split
    · rfl
    · exact ih
theorem vals_addM (f : List (Int × α)) (k : Int) (v : α) : vals toV (addM f k v) = addM (vals toV f) k (toV v) := by
  unfold addM
  rw [vals_lookup]
  cases f.lookup k <;> simp [vals]
end

/-! ### What the model does -/
section
variable {P : Program} {T : TTab} {n : Nat} {L : Frm} {h : Hp} {o : Oper} {B : Base}
open Instr in
theorem findNow_run {kd : IntKind} {key : Int} : ∀ (l : List MapEntry) (f : List (Int × Value)) (i : Nat), l.map (fun e => (e.key, e.val)) = f.map (fun p => (Value.int kd p.1, p.2)) →
    findNow (.int kd) (.int kd key) l i = some (findM f key i) := by
  intro l
  induction l with
  | nil =>
    intro f i hf
    cases f with
    | nil => rfl
    | cons => simp at hf
  | cons e r ih =>
    intro f i hf
    cases f with
    | nil => simp at hf
    | cons p q =>
      simp only [List.map_cons, List.cons.injEq, Prod.mk.injEq] at hf
      obtain ⟨⟨h1, h2⟩, h3⟩ := hf
      unfold findNow
      rw [h1]
      by_cases e : key = p.1
      · subst e; simp [sameNow, findM, h2]
      · have e0 : (key == p.1) = false := by simpa using e
        simp [sameNow, findM, e0, e, ih q (i + 1) h3]

theorem run_getObj {w : World} {r : Nat} {es : Array MapEntry} {c : Nat} (hg : w.heap[r]? = some (.map es c)) : (getObj r).run P w = .ok (.map es c) w := by
  simp [getObj, Sem.run, hg]
open Instr in
theorem run_findKey (hT : TTab.Ok P T) {kt : Nat} {kd : IntKind} {key : Int} {es : Array MapEntry} {c : Nat} {f : List (Int × Value)} {w : World} (hk : T.desc kt = some (.int kd)) (he : Ents kd es c f) :
    (findKey kt (.int kd key) es.toList).run P w = .ok (findM f key 0) w := by
  simp [findKey, TTab.desc_run hT hk, Result.andThen, findNow_run _ _ _ he.all]
open Instr in
theorem run_checkKey0 (hT : TTab.Ok P T) {kt : Nat} {kd : IntKind} {key : Int} {b : Bool} {w : World} (hk : T.desc kt = some (.int kd)) : ∀ m, (checkKey b (m + 1) kt (.int kd key)).run P w = .ok () w := by
  intro m
  simp [checkKey, TTab.desc_run hT hk, Result.andThen]
open Instr in
theorem run_checkKey (hT : TTab.Ok P T) {kt : Nat} {kd : IntKind} {key : Int} {b : Bool} {w : World} (hk : T.desc kt = some (.int kd)) : (checkKey b 10000 kt (.int kd key)).run P w = .ok () w :=
  run_checkKey0 hT hk 9999
def zeroIs (P : Program) (t : Nat) : Option Value := (P.info? t).bind (·.zero)
theorem run_zero {t : Nat} {v : Value} (hz : zeroIs P t = some v) (w : World) : (zeroValue t).run P w = .ok v w := by
  unfold zeroIs at hz
  cases hi : P.info? t with
  | none => simp [hi] at hz
  | some i =>
    simp only [hi, Option.bind_some] at hz
    simp [zeroValue, typeInfo, hi, Result.andThen, hz]

theorem map_ne_junk {es : Array MapEntry} {c : Nat} : Obj.map es c ≠ junk := fun e => by cases e
theorem Rel.mapEs {H : Heap} (hr : Rel h H) {kd : IntKind} {x : Option Nat} {f : List (Int × Value)} (hm : Lift.mapEs kd h.m x f) : Lift.mapEs kd H x f := by
  cases x with
  | none => exact hm
  | some r =>
    obtain ⟨es, c, h1, h2⟩ := hm
    exact ⟨es, c, hr.block h1 map_ne_junk, h2⟩

theorem Quiet1.lookM {α : Type} {t kt e : Nat} {x i : Operand} {kd : IntKind} {toV : α → Value} {zero : α} {m : Option Nat} {key : Int} {f : List (Int × α)} (hT : TTab.Ok P T) (hop : o.op = .lookup t x i true) (ht : T.desc t = some (.map kt e)) (hk : T.desc kt = some (.int kd)) (hz : zeroIs P e = some (toV zero))
    (hx : L.ev x = some (.map m)) (hi : L.ev i = some (.int kd key)) (hf : Lift.mapEs kd h.m m (vals toV f)) {r : α × Bool} (hr : (match f.lookup key with | some v => (v, true) | none => (zero, false)) = r) : Quiet1 P n L h o (.tuple #[toV r.1, .bool r.2]) := by
  intro ac w ha hw
  have hm := hw.mapEs hf
  have hl := findM_lookup (vals toV f) key 0
  rw [vals_lookup] at hl
  have hr1 : toV r.1 = match f.lookup key with | some v => toV v | none => toV zero := by subst hr; cases f.lookup key <;> rfl
  have hr2 : r.2 = (f.lookup key).isSome := by subst hr; cases f.lookup key <;> rfl
  cases m with
  | none =>
    simp only [Lift.mapEs] at hm
    have hf0 : f = [] := by cases f with | nil => rfl | cons => simp [vals] at hm
    subst hf0
    simp only [List.lookup] at hr
    subst hr
    simp [execOp, hop, ha.eval hx, ha.eval hi, Instr.lookup, TTab.desc_run hT ht, Result.andThen, run_checkKey hT hk, Instr.findKey, TTab.desc_run hT hk, Instr.findNow, run_zero hz]
  | some q =>
    obtain ⟨es, c, h1, h2⟩ := hm
    simp only [execOp, hop, ha.eval hx, ha.eval hi]
    cases hq : f.lookup key with
    | none =>
      rw [hq] at hl hr1 hr2
      have hn : findM (vals toV f) key 0 = none := by simpa using hl
      simp [Instr.lookup, TTab.desc_run hT ht, Result.andThen, run_getObj h1, run_checkKey hT hk, run_findKey hT hk h2, hn, run_zero hz, hr1, hr2]
    | some v =>
      rw [hq] at hl hr1 hr2
      cases hn : findM (vals toV f) key 0 with
      | none => simp [hn] at hl
      | some p =>
        obtain ⟨a, b⟩ := p
        simp [hn] at hl
        simp [Instr.lookup, TTab.desc_run hT ht, Result.andThen, run_getObj h1, run_checkKey hT hk, run_findKey hT hk h2, hn, hr1, hr2, hl]
theorem Quiet1.lookM1 {α : Type} {t kt e : Nat} {x i : Operand} {kd : IntKind} {toV : α → Value} {zero : α} {m : Option Nat} {key : Int} {f : List (Int × α)} (hT : TTab.Ok P T) (hop : o.op = .lookup t x i false) (ht : T.desc t = some (.map kt e)) (hk : T.desc kt = some (.int kd)) (hz : zeroIs P e = some (toV zero))
    (hx : L.ev x = some (.map m)) (hi : L.ev i = some (.int kd key)) (hf : Lift.mapEs kd h.m m (vals toV f)) {r : α × Bool} (hr : (match f.lookup key with | some v => (v, true) | none => (zero, false)) = r) : Quiet1 P n L h o (toV r.1) := by
  intro ac w ha hw
  have hm := hw.mapEs hf
  have hl := findM_lookup (vals toV f) key 0
  rw [vals_lookup] at hl
  have hr1 : toV r.1 = match f.lookup key with | some v => toV v | none => toV zero := by subst hr; cases f.lookup key <;> rfl
  cases m with
  | none =>
    simp only [Lift.mapEs] at hm
    have hf0 : f = [] := by cases f with | nil => rfl | cons => simp [vals] at hm
    subst hf0
    simp only [List.lookup] at hr
    subst hr
    simp [execOp, hop, ha.eval hx, ha.eval hi, Instr.lookup, TTab.desc_run hT ht, Result.andThen, run_checkKey hT hk, Instr.findKey, TTab.desc_run hT hk, Instr.findNow, run_zero hz]
  | some q =>
    obtain ⟨es, c, h1, h2⟩ := hm
    simp only [execOp, hop, ha.eval hx, ha.eval hi]
    cases hq : f.lookup key with
    | none =>
      rw [hq] at hl hr1
      have hn : findM (vals toV f) key 0 = none := by simpa using hl
      simp [Instr.lookup, TTab.desc_run hT ht, Result.andThen, run_getObj h1, run_checkKey hT hk, run_findKey hT hk h2, hn, run_zero hz, hr1]
    | some v =>
      rw [hq] at hl hr1
      cases hn : findM (vals toV f) key 0 with
      | none => simp [hn] at hl
      | some p =>
        obtain ⟨a, b⟩ := p
        simp [hn] at hl
        simp [Instr.lookup, TTab.desc_run hT ht, Result.andThen, run_getObj h1, run_checkKey hT hk, run_findKey hT hk h2, hn, hr1, hl]

theorem run_setObj {w : World} {r : Nat} {es es' : Array MapEntry} {c c' : Nat} (hg : w.heap[r]? = some (.map es c)) : (setObj r (.map es' c')).run P w = .ok () { w with heap := w.heap.setIfInBounds r (.map es' c') } := by
  simp [setObj, Sem.run, hg]
theorem sameBits_int {kd : IntKind} {a : Int} : ∀ n, Instr.sameBits n (.int kd a) (.int kd a) = true := by
  intro n; cases n <;> simp [Instr.sameBits]
theorem run_keyStays {kd : IntKind} {a : Int} {w : World} : (Instr.keyThatStays (.int kd a) (.int kd a)).run P w = .ok (.int kd a) w := by
  simp [Instr.keyThatStays, sameBits_int]

theorem InW.setMap {w : World} (hi : InW B h w) {r : Nat} {es : Array MapEntry} {c : Nat} {ob : Obj} (hc : h.m[r]? = some (.map es c)) : InW B ⟨h.m.setIfInBounds r ob, h.pv⟩ { w with heap := w.heap.setIfInBounds r ob } := by
  have hH := hi.rel.block hc map_ne_junk
  have nj : ∀ b : Nat, h.m[b]? = some junk → r ≠ b := by
    intro b hbj e
    subst e
    rw [hc] at hbj
    exact map_ne_junk (Option.some.inj hbj)
  refine ⟨hi.os, hi.out, hi.tape, ⟨?_, ?_, ?_, hi.rel.nodup⟩, ?_, hi.fresh, by simpa using hi.grow⟩
  · simpa using hi.rel.size
  · intro b
    by_cases e : r = b
    · subst e
      right
      have l1 := (Array.getElem?_eq_some_iff.1 hc).1
      have l2 := (Array.getElem?_eq_some_iff.1 hH).1
      simp [Array.getElem?_setIfInBounds, l1, l2]
    · simp only [Array.getElem?_setIfInBounds_ne e]
      exact hi.rel.same b
  · intro b cs hm
    obtain ⟨h1, T', h2⟩ := hi.rel.priv b cs hm
    have := nj b h1
    exact ⟨by simp only [Array.getElem?_setIfInBounds_ne this]; exact h1, T', by simp only [Array.getElem?_setIfInBounds_ne this]; exact h2⟩
  · intro b hbj
    obtain ⟨h1, h2⟩ := hi.keep b hbj
    have := nj b h1
    exact ⟨by simp only [Array.getElem?_setIfInBounds_ne this]; exact h1, by simp only [Array.getElem?_setIfInBounds_ne this]; exact h2⟩

theorem Ents.nil {kd : IntKind} : Ents kd #[] 0 [] := ⟨rfl, by simp, by simp, by simp⟩
theorem Ents.push {kd : IntKind} {es : Array MapEntry} {c : Nat} {f : List (Int × Value)} (he : Ents kd es c f) {key : Int} {v : Value} (hk : f.lookup key = none) :
    Ents kd (es.push ⟨.int kd key, v, c⟩) (c + 1) (f ++ [(key, v)]) := by
  refine ⟨?_, ?_, ?_, ?_⟩
  · simp [he.all]
  · rw [Array.toList_push, List.map_append, List.nodup_append]
    refine ⟨he.born, by simp, ?_⟩
    intro a ha b hb
    simp only [List.map_cons, List.map_nil, List.mem_singleton] at hb
    obtain ⟨e, he', rfl⟩ := List.mem_map.1 ha
    have := he.clock e he'
    omega
  · intro e hm
    rw [Array.toList_push, List.mem_append] at hm
    rcases hm with hm | hm
    · have := he.clock e hm; omega
    · simp only [List.mem_singleton] at hm; subst hm; exact Nat.lt_succ_self _
  · rw [List.map_append, List.nodup_append]
    refine ⟨he.keys, by simp, ?_⟩
    intro a ha b hb
    simp only [List.map_cons, List.map_nil, List.mem_singleton] at hb
    subst hb
    intro e; subst e
    exact lookup_none hk ha
theorem Ents.len {kd : IntKind} {es : Array MapEntry} {c : Nat} {f : List (Int × Value)} (he : Ents kd es c f) : es.size = f.length := by
  have := congrArg List.length he.all
  simpa using this
theorem Ents.at {kd : IntKind} {es : Array MapEntry} {c : Nat} {f : List (Int × Value)} (he : Ents kd es c f) {i : Nat} {key : Int} {v : Value} (hf : f[i]? = some (key, v)) : ∃ e, es[i]? = some e ∧ e.key = .int kd key ∧ e.val = v := by
  have hl := he.len
  obtain ⟨hi, hv⟩ := List.getElem?_eq_some_iff.1 hf
  have hi' : i < es.size := by omega
  have := congrArg (fun l => l[i]?) he.all
  simp only [List.getElem?_map, hf, Option.map_some, Array.getElem?_toList, Array.getElem?_eq_getElem hi', Option.some.injEq, Prod.mk.injEq] at this
  exact ⟨es[i], Array.getElem?_eq_getElem hi', this.1, this.2⟩
theorem Ents.set {kd : IntKind} {es : Array MapEntry} {c : Nat} {f : List (Int × Value)} (he : Ents kd es c f) {i : Nat} {key : Int} {v u : Value} (hf : f[i]? = some (key, v)) {g : MapEntry → MapEntry}
    (hg : ∀ e, e.key = .int kd key → (g e).key = .int kd key ∧ (g e).val = u ∧ (g e).born = e.born) : Ents kd (es.modify i g) c (f.set i (key, u)) := by
  obtain ⟨e0, h1, h2, h3⟩ := he.at hf
  obtain ⟨hi, hv⟩ := List.getElem?_eq_some_iff.1 hf
  have hl := he.len
  have hb : (es.modify i g).toList.map (·.born) = es.toList.map (·.born) := by
    apply List.ext_getElem?
    intro j
    simp only [List.getElem?_map, Array.getElem?_toList, Array.getElem?_modify]
    by_cases e : i = j
    · subst e; simp [h1, (hg e0 h2).2.2]
    · simp [e]
  refine ⟨?_, by rw [hb]; exact he.born, ?_, ?_⟩
  · apply List.ext_getElem?
    intro j
    have hj := congrArg (fun l => l[j]?) he.all
    simp only [List.getElem?_map, Array.getElem?_toList] at hj ⊢
    rw [Array.getElem?_modify, List.getElem?_set]
    by_cases e : i = j
    · subst e
      simp [h1, hi, (hg e0 h2).1, (hg e0 h2).2.1]
    · simp only [e, if_false]; exact hj
  · intro e hm
    have : e.born ∈ (es.modify i g).toList.map (·.born) := List.mem_map_of_mem hm
    rw [hb] at this
    obtain ⟨e', h', h''⟩ := List.mem_map.1 this
    have := he.clock e' h'
    omega
  · have : (f.set i (key, u)).map (·.1) = f.map (·.1) := by
      apply List.ext_getElem?
      intro j
      rw [List.getElem?_map, List.getElem?_map, List.getElem?_set]
      by_cases e : i = j
      · subst e; simp [hi, hf]; rw [hv]
      · simp [e]
    rw [this]; exact he.keys

theorem nodup_injI {l : List Int} (hn : l.Nodup) {i j : Nat} {hi : i < l.length} {hj : j < l.length} (h : l[i] = l[j]) : i = j := by
  have hp := List.pairwise_iff_getElem.1 hn
  rcases Nat.lt_trichotomy i j with hlt | he | hlt
  · exact absurd h (hp i j hi hj hlt)
  · exact he
  · exact absurd h.symm (hp j i hj hi hlt)
theorem Eff.newM {t : Nat} {k : Option Nat → Heap → Prop} (hop : o.op = .makeMap t none) (H : Lift.newM h.m k) :
    Eff P n B L h o (fun v h' => ∃ r m, v = Value.map r ∧ h' = ⟨m, h.pv⟩ ∧ k r m) := by
  intro ac w ha hw next Q hn
  have : (execOp ac.eval o).run P w = .ok (.value (.map (some h.m.size))) { w with heap := w.heap.push (.map #[] 0) } := by
    simp [execOp, hop, Instr.makeMap, newObj, Sem.run, Result.andThen, hw.rel.size]
  unfold Oper.wp
  rw [this]
  exact hn _ _ _ (hw.push ⟨rfl, rfl, rfl⟩ rfl) ⟨_, _, rfl, rfl, H⟩

theorem Eff.setM {α : Type} {t kt e : Nat} {x i y : Operand} {kd : IntKind} {toV : α → Value} {m : Option Nat} {key : Int} {v : α} {k : Heap → Prop} (hT : TTab.Ok P T) (hop : o.op = .mapUpdate t x i y) (ht : T.desc t = some (.map kt e)) (hk : T.desc kt = some (.int kd))
    (hx : L.ev x = some (.map m)) (hi : L.ev i = some (.int kd key)) (hy : L.ev y = some (toV v)) (H : Lift.setM kd toV m key v h.m k) :
    Eff P n B L h o (fun _ h' => ∃ m, h' = ⟨m, h.pv⟩ ∧ k m) := by
  intro ac w ha hw next Q hn
  obtain ⟨r, f, rfl, ⟨es, c, h1, h2⟩, hk'⟩ := H
  have hH := hw.rel.block h1 map_ne_junk
  have hl := findM_lookup (vals toV f) key 0
  cases hq : findM (vals toV f) key 0 with
  | none =>
    rw [hq] at hl
    have hl : (vals toV f).lookup key = none := hl.symm
    have hrun : (execOp ac.eval o).run P w = .ok .skip { w with heap := w.heap.setIfInBounds r (.map (es.push ⟨.int kd key, toV v, c⟩) (c + 1)) } := by
      simp [execOp, hop, ha.eval hx, ha.eval hi, ha.eval hy, Instr.mapUpdate, TTab.desc_run hT ht, Result.andThen, run_getObj hH, run_checkKey hT hk, run_findKey hT hk h2, hq, run_setObj hH]
    unfold Oper.wp
    rw [hrun]
    refine hn _ _ _ (hw.setMap h1) ⟨_, rfl, hk' _ _ ?_⟩
    rw [vals_updM, updM_new hl]
    exact h2.push hl
  | some p =>
    obtain ⟨j, u⟩ := p
    obtain ⟨_, f1, f2⟩ := findM_spec _ _ _ _ _ hq
    obtain ⟨e0, g1, g2, g3⟩ := h2.at f1
    simp only [Nat.sub_zero] at f1 g1 f2
    have hrun : (execOp ac.eval o).run P w = .ok .skip { w with heap := w.heap.setIfInBounds r (.map (es.modify j fun e => { e with key := .int kd key, val := toV v }) c) } := by
      simp [execOp, hop, ha.eval hx, ha.eval hi, ha.eval hy, Instr.mapUpdate, TTab.desc_run hT ht, Result.andThen, run_getObj hH, run_checkKey hT hk, run_findKey hT hk h2, hq, run_setObj hH, g1, g2, run_keyStays]
    unfold Oper.wp
    rw [hrun]
    refine hn _ _ _ (hw.setMap h1) ⟨_, rfl, hk' _ _ ?_⟩
    rw [vals_updM, f2]
    exact h2.set f1 (fun e _ => ⟨rfl, rfl, rfl⟩)

theorem Eff.insM {α : Type} {t kt e : Nat} {x i y : Operand} {kd : IntKind} {toV : α → Value} {m : Option Nat} {key : Int} {v : α} {k : Heap → Prop} (hT : TTab.Ok P T) (hop : o.op = .insert t x i y) (ht : T.desc t = some (.map kt e)) (hk : T.desc kt = some (.int kd))
    (hx : L.ev x = some (.map m)) (hi : L.ev i = some (.int kd key)) (hy : L.ev y = some (toV v)) (H : Lift.setM kd toV m key v h.m k) :
    Eff P n B L h o (fun _ h' => ∃ m, h' = ⟨m, h.pv⟩ ∧ k m) := by
  intro ac w ha hw next Q hn
  obtain ⟨r, f, rfl, ⟨es, c, h1, h2⟩, hk'⟩ := H
  have hH := hw.rel.block h1 map_ne_junk
  have hl := findM_lookup (vals toV f) key 0
  cases hq : findM (vals toV f) key 0 with
  | none =>
    rw [hq] at hl
    have hl : (vals toV f).lookup key = none := hl.symm
    have hrun : (execOp ac.eval o).run P w = .ok .skip { w with heap := w.heap.setIfInBounds r (.map (es.push ⟨.int kd key, toV v, c⟩) (c + 1)) } := by
      simp [execOp, hop, ha.eval hx, ha.eval hi, ha.eval hy, Instr.mapUpdate, TTab.desc_run hT ht, Result.andThen, run_getObj hH, run_checkKey hT hk, run_findKey hT hk h2, hq, run_setObj hH]
    unfold Oper.wp
    rw [hrun]
    refine hn _ _ _ (hw.setMap h1) ⟨_, rfl, hk' _ _ ?_⟩
    rw [vals_updM, updM_new hl]
    exact h2.push hl
  | some p =>
    obtain ⟨j, u⟩ := p
    obtain ⟨_, f1, f2⟩ := findM_spec _ _ _ _ _ hq
    obtain ⟨e0, g1, g2, g3⟩ := h2.at f1
    simp only [Nat.sub_zero] at f1 g1 f2
    have hrun : (execOp ac.eval o).run P w = .ok .skip { w with heap := w.heap.setIfInBounds r (.map (es.modify j fun e => { e with key := .int kd key, val := toV v }) c) } := by
      simp [execOp, hop, ha.eval hx, ha.eval hi, ha.eval hy, Instr.mapUpdate, TTab.desc_run hT ht, Result.andThen, run_getObj hH, run_checkKey hT hk, run_findKey hT hk h2, hq, run_setObj hH, g1, g2, run_keyStays]
    unfold Oper.wp
    rw [hrun]
    refine hn _ _ _ (hw.setMap h1) ⟨_, rfl, hk' _ _ ?_⟩
    rw [vals_updM, f2]
    exact h2.set f1 (fun e _ => ⟨rfl, rfl, rfl⟩)

theorem addM_old {α : Type} {f : List (Int × α)} {k : Int} {v u : α} (h : f.lookup k = some u) : addM f k v = f := by simp [addM, h]
theorem addM_new {α : Type} {f : List (Int × α)} {k : Int} {v : α} (h : f.lookup k = none) : addM f k v = f ++ [(k, v)] := by simp [addM, h]
theorem Eff.entryM {α : Type} {t kt e : Nat} {x i : Operand} {kd : IntKind} {toV : α → Value} {zero : α} {m : Option Nat} {key : Int} {k : α × Int → Heap → Prop} (hT : TTab.Ok P T) (hop : o.op = .mapEntry t x i) (ht : T.desc t = some (.map kt e)) (hk : T.desc kt = some (.int kd)) (hz : zeroIs P e = some (toV zero))
    (hx : L.ev x = some (.map m)) (hi : L.ev i = some (.int kd key)) (H : Lift.entryM kd toV zero m key h.m k) :
    Eff P n B L h o (fun v h' => ∃ (r : α × Int) (m : Heap), v = Value.tuple #[toV r.1, .int .i64 r.2] ∧ h' = ⟨m, h.pv⟩ ∧ k r m) := by
  intro ac w ha hw next Q hn
  obtain ⟨r, f, rfl, ⟨es, c, h1, h2⟩, hk'⟩ := H
  have hH := hw.rel.block h1 map_ne_junk
  have hl := findM_lookup (vals toV f) key 0
  rw [vals_lookup] at hl
  cases hq : findM (vals toV f) key 0 with
  | none =>
    rw [hq] at hl
    have hl1 : f.lookup key = none := by cases hf : f.lookup key <;> simp_all
    have hl2 : (vals toV f).lookup key = none := by rw [vals_lookup, hl1]; rfl
    have hrun : (execOp ac.eval o).run P w = .ok (.value (.tuple #[toV zero, .int .i64 (c : Int)])) { w with heap := w.heap.setIfInBounds r (.map (es.push ⟨.int kd key, toV zero, c⟩) (c + 1)) } := by
      simp [execOp, hop, ha.eval hx, ha.eval hi, Instr.mapEntry, TTab.desc_run hT ht, Result.andThen, run_getObj hH, run_checkKey hT hk, run_findKey hT hk h2, hq, run_setObj hH, run_zero hz, goInt]
    unfold Oper.wp
    rw [hrun]
    refine hn _ _ _ (hw.setMap h1) ⟨_, _, ?_, rfl, hk' _ _ (c : Int) ?_ ?_⟩
    · simp [hl1]
    · rw [vals_addM, addM_new hl2]; exact h2.push hl2
    · exact ⟨es.size, ⟨.int kd key, toV zero, c⟩, by simp, rfl, rfl⟩
  | some p =>
    obtain ⟨j, u⟩ := p
    obtain ⟨_, f1, f2⟩ := findM_spec _ _ _ _ _ hq
    obtain ⟨e0, g1, g2, g3⟩ := h2.at f1
    simp only [Nat.sub_zero] at f1 g1 f2
    rw [hq] at hl
    cases hf : f.lookup key with
    | none => simp [hf] at hl
    | some b =>
    simp only [hf, Option.map_some, Option.some.injEq] at hl
    have hl2 : (vals toV f).lookup key = some (toV b) := by rw [vals_lookup, hf]; rfl
    have hrun : (execOp ac.eval o).run P w = .ok (.value (.tuple #[u, .int .i64 (e0.born : Int)])) { w with heap := w.heap.setIfInBounds r (.map (es.modify j fun e => { e with key := .int kd key }) c) } := by
      simp [execOp, hop, ha.eval hx, ha.eval hi, Instr.mapEntry, TTab.desc_run hT ht, Result.andThen, run_getObj hH, run_checkKey hT hk, run_findKey hT hk h2, hq, run_setObj hH, g1, g2, run_keyStays, goInt]
    unfold Oper.wp
    rw [hrun]
    refine hn _ _ _ (hw.setMap h1) ⟨_, _, ?_, rfl, hk' _ _ (e0.born : Int) ?_ ?_⟩
    · simp [hf, hl]
    · rw [vals_addM, addM_old hl2]
      have h3 : ∀ e, e.key = .int kd key → ({ e with key := .int kd key } : MapEntry) = e := by intro e he; cases e; simp_all
      have : es.modify j (fun e => { e with key := .int kd key }) = es := by
        apply Array.ext_getElem?
        intro i
        rw [Array.getElem?_modify]
        by_cases ei : j = i
        · subst ei; simp [g1, h3 _ g2]
        · simp [ei]
      rw [this]; exact h2
    · refine ⟨j, { e0 with key := .int kd key }, ?_, rfl, rfl⟩
      simp [Array.getElem?_modify, g1]

theorem Eff.entryS {α : Type} {t : Nat} {x i y : Operand} {kd : IntKind} {toV : α → Value} {m : Option Nat} {st : Int} {v : α} {k : Heap → Prop} (hop : o.op = .entryStore t x i y)
    (hx : L.ev x = some (.map m)) (hi : L.ev i = some (.int .i64 st)) (hy : L.ev y = some (toV v)) (H : Lift.entryS kd toV m st v h.m k) :
    Eff P n B L h o (fun _ h' => ∃ m, h' = ⟨m, h.pv⟩ ∧ k m) := by
  intro ac w ha hw next Q hn
  obtain ⟨r, es, c, f, key, rfl, h1, h2, ⟨j, e0, g1, g2, g3⟩, hk'⟩ := H
  have hH := hw.rel.block h1 map_ne_junk
  have hjl := (Array.getElem?_eq_some_iff.1 g1)
  obtain ⟨hj, hje⟩ := hjl
  have hfind : es.findIdx? (fun e => (e.born : Int) == st) = some j := by
    rw [Array.findIdx?_eq_some_iff_getElem]
    refine ⟨hj, by rw [hje]; simpa using g3, ?_⟩
    intro i hij hc
    have hc : ((es[i].born : Nat) : Int) = st := by simpa using hc
    have hb : es[i].born = e0.born := by omega
    have l1 : i < es.toList.length := by simp; omega
    have l2 : j < es.toList.length := by simpa using hj
    have h5 := List.pairwise_iff_getElem.1 h2.born i j (by simp; omega) (by simpa using hj) hij
    simp only [List.getElem_map, Array.getElem_toList, hje] at h5
    exact h5 hb
  have hfl := h2.len
  have hfj : ∃ u, (vals toV f)[j]? = some (key, u) := by
    have h5 := congrArg (fun l => l[j]?) h2.all
    have hjf : j < (vals toV f).length := by omega
    simp only [List.getElem?_map, Array.getElem?_toList, g1, Option.map_some, List.getElem?_eq_getElem hjf, Option.some.injEq, Prod.mk.injEq] at h5
    have h6 : (vals toV f)[j].1 = key := by have := h5.1.symm.trans g2; injection this
    exact ⟨(vals toV f)[j].2, by rw [List.getElem?_eq_getElem hjf, ← h6]⟩
  obtain ⟨u, hfj⟩ := hfj
  have hrun : (execOp ac.eval o).run P w = .ok .skip { w with heap := w.heap.setIfInBounds r (.map (es.modify j fun e => { e with val := toV v }) c) } := by
    simp [execOp, hop, ha.eval hx, ha.eval hi, ha.eval hy, Instr.entryStore, asInt, asIntOf, Result.andThen, run_getObj hH, hfind, run_setObj hH]
  unfold Oper.wp
  rw [hrun]
  refine hn _ _ _ (hw.setMap h1) ⟨_, rfl, hk' _ ?_⟩
  have hu : updM (vals toV f) key (toV v) = (vals toV f).set j (key, toV v) := by
    cases hq : findM (vals toV f) key 0 with
    | none =>
      have h6 := findM_lookup (vals toV f) key 0
      rw [hq] at h6
      have h7 := lookup_none h6.symm
      exact absurd (List.mem_map_of_mem (f := (·.1)) (List.mem_of_getElem? hfj)) h7
    | some p =>
      obtain ⟨i, u'⟩ := p
      obtain ⟨_, f1, f2⟩ := findM_spec _ _ _ _ _ hq
      simp only [Nat.sub_zero] at f1 f2
      rw [f2]
      have hi := List.getElem?_eq_some_iff.1 f1
      have hj' := List.getElem?_eq_some_iff.1 hfj
      have : i = j := by
        have n1 := h2.keys
        obtain ⟨l1, e1⟩ := hi
        obtain ⟨l2, e2⟩ := hj'
        have : ((vals toV f).map (·.1))[i]'(by simpa using l1) = ((vals toV f).map (·.1))[j]'(by simpa using l2) := by simp [e1, e2]
        exact nodup_injI n1 this
      rw [this]
  rw [vals_updM, hu]
  exact h2.set hfj (fun e he => ⟨he, rfl, rfl⟩)
end
/-! ### The same, at a heap that is written out -/
section
variable {P : Program} {T : TTab} {n : Nat} {L : Frm} {m0 : Heap} {pv0 : List (Nat × List Value)} {o : Oper} {B : Base}
theorem EffX.newM {t : Nat} {k : Option Nat → Heap → Prop} (hop : o.op = .makeMap t none) (H : Lift.newM m0 k) :
    Eff P n B L ⟨m0, pv0⟩ o (fun v h' => ∃ r m, v = Value.map r ∧ h' = ⟨m, pv0⟩ ∧ k r m) := Eff.newM (h := ⟨m0, pv0⟩) hop H
theorem EffX.setM {α : Type} {t kt e : Nat} {x i y : Operand} {kd : IntKind} {toV : α → Value} {m : Option Nat} {key : Int} {v : α} {k : Heap → Prop} (hT : TTab.Ok P T) (hop : o.op = .mapUpdate t x i y) (ht : T.desc t = some (.map kt e)) (hk : T.desc kt = some (.int kd))
    (hx : L.ev x = some (.map m)) (hi : L.ev i = some (.int kd key)) (hy : L.ev y = some (toV v)) (H : Lift.setM kd toV m key v m0 k) :
    Eff P n B L ⟨m0, pv0⟩ o (fun _ h' => ∃ m, h' = ⟨m, pv0⟩ ∧ k m) := Eff.setM (h := ⟨m0, pv0⟩) hT hop ht hk hx hi hy H
theorem EffX.insM {α : Type} {t kt e : Nat} {x i y : Operand} {kd : IntKind} {toV : α → Value} {m : Option Nat} {key : Int} {v : α} {k : Heap → Prop} (hT : TTab.Ok P T) (hop : o.op = .insert t x i y) (ht : T.desc t = some (.map kt e)) (hk : T.desc kt = some (.int kd))
    (hx : L.ev x = some (.map m)) (hi : L.ev i = some (.int kd key)) (hy : L.ev y = some (toV v)) (H : Lift.setM kd toV m key v m0 k) :
    Eff P n B L ⟨m0, pv0⟩ o (fun _ h' => ∃ m, h' = ⟨m, pv0⟩ ∧ k m) := Eff.insM (h := ⟨m0, pv0⟩) hT hop ht hk hx hi hy H
theorem EffX.entryM {α : Type} {t kt e : Nat} {x i : Operand} {kd : IntKind} {toV : α → Value} {zero : α} {m : Option Nat} {key : Int} {k : α × Int → Heap → Prop} (hT : TTab.Ok P T) (hop : o.op = .mapEntry t x i) (ht : T.desc t = some (.map kt e)) (hk : T.desc kt = some (.int kd)) (hz : zeroIs P e = some (toV zero))
    (hx : L.ev x = some (.map m)) (hi : L.ev i = some (.int kd key)) (H : Lift.entryM kd toV zero m key m0 k) :
    Eff P n B L ⟨m0, pv0⟩ o (fun v h' => ∃ (r : α × Int) (m : Heap), v = Value.tuple #[toV r.1, .int .i64 r.2] ∧ h' = ⟨m, pv0⟩ ∧ k r m) := Eff.entryM (h := ⟨m0, pv0⟩) hT hop ht hk hz hx hi H
theorem EffX.entryS {α : Type} {t : Nat} {x i y : Operand} {kd : IntKind} {toV : α → Value} {m : Option Nat} {st : Int} {v : α} {k : Heap → Prop} (hop : o.op = .entryStore t x i y)
    (hx : L.ev x = some (.map m)) (hi : L.ev i = some (.int .i64 st)) (hy : L.ev y = some (toV v)) (H : Lift.entryS kd toV m st v m0 k) :
    Eff P n B L ⟨m0, pv0⟩ o (fun _ h' => ∃ m, h' = ⟨m, pv0⟩ ∧ k m) := Eff.entryS (h := ⟨m0, pv0⟩) hop hx hi hy H
end
end Go.Lift

namespace Go.Lift
open Go
abbrev K2 := Int × Int
def pk (kd : IntKind) (k : K2) : Value := .agg #[.int kd k.1, .int kd k.2]
/-- A type is an array of two numbers. -/
abbrev KeyD (T : TTab) (kt : Nat) (kd : IntKind) : Prop := ∃ e, T.desc kt = some (.array 2 e) ∧ T.desc e = some (.int kd) ∧ T.size e = some 1
theorem pk_inj {kd : IntKind} {a b : K2} (h : pk kd a = pk kd b) : a = b := by
  unfold pk at h
  simp only [Value.agg.injEq, Array.mk.injEq, List.cons.injEq, Value.int.injEq, true_and, and_true] at h
  exact Prod.ext h.1 h.2
/-- Entries of a map: keys, each once, with what they have; and their stamps. -/
structure EntsP (kd : IntKind) (es : Array MapEntry) (c : Nat) (f : List (K2 × Value)) : Prop where
  all : es.toList.map (fun e => (e.key, e.val)) = f.map (fun p => (pk kd p.1, p.2))
  born : (es.toList.map (·.born)).Nodup
  clock : ∀ e ∈ es.toList, e.born < c
  keys : (f.map (·.1)).Nodup
def mapEsP (kd : IntKind) (h : Heap) (x : Option Nat) (f : List (K2 × Value)) : Prop :=
  match x with
  | none => f = []
  | some r => ∃ es c, h[r]? = some (.map es c) ∧ EntsP kd es c f
def valsP {α : Type} (toV : α → Value) (f : List (K2 × α)) : List (K2 × Value) := f.map fun p => (p.1, toV p.2)
def updMP {α : Type} : List (K2 × α) → K2 → α → List (K2 × α)
  | [], k, v => [(k, v)]
  | p :: r, k, v => if k == p.1 then (p.1, v) :: r else p :: updMP r k v
def addMP {α : Type} (f : List (K2 × α)) (k : K2) (v : α) : List (K2 × α) := if (f.lookup k).isSome then f else f ++ [(k, v)]

def lookMP {α : Type} (kd : IntKind) (toV : α → Value) (zero : α) (x : Option Nat) (key : K2) (h : Heap) (k : α × Bool → Prop) : Prop :=
  ∃ (f : List (K2 × α)) (r : α × Bool), mapEsP kd h x (valsP toV f) ∧ (match f.lookup key with | some v => (v, true) | none => (zero, false)) = r ∧ k r
def setMP {α : Type} (kd : IntKind) (toV : α → Value) (x : Option Nat) (key : K2) (v : α) (h : Heap) (k : Heap → Prop) : Prop :=
  ∃ (r : Nat) (f : List (K2 × α)), x = some r ∧ mapEsP kd h (some r) (valsP toV f) ∧ ∀ es c, EntsP kd es c (valsP toV (updMP f key v)) → k (h.setIfInBounds r (.map es c))
def StampedP (kd : IntKind) (es : Array MapEntry) (key : K2) (st : Int) : Prop := ∃ (i : Nat) (e : MapEntry), es[i]? = some e ∧ e.key = pk kd key ∧ (e.born : Int) = st
def entryMP {α : Type} (kd : IntKind) (toV : α → Value) (zero : α) (x : Option Nat) (key : K2) (h : Heap) (k : α × Int → Heap → Prop) : Prop :=
  ∃ (r : Nat) (f : List (K2 × α)), x = some r ∧ mapEsP kd h (some r) (valsP toV f) ∧ ∀ es c st, EntsP kd es c (valsP toV (addMP f key zero)) → StampedP kd es key st → k ((f.lookup key).getD zero, st) (h.setIfInBounds r (.map es c))
def entrySP {α : Type} (kd : IntKind) (toV : α → Value) (x : Option Nat) (st : Int) (v : α) (h : Heap) (k : Heap → Prop) : Prop :=
  ∃ (r : Nat) (es : Array MapEntry) (c : Nat) (f : List (K2 × α)) (key : K2), x = some r ∧ h[r]? = some (.map es c) ∧ EntsP kd es c (valsP toV f) ∧ StampedP kd es key st ∧
    ∀ es', EntsP kd es' c (valsP toV (updMP f key v)) → k (h.setIfInBounds r (.map es' c))
/-! ### What is so of lists of keys -/
section
variable {α : Type} {toV : α → Value}
theorem lookup_updMP (f : List (K2 × α)) (k j : K2) (v : α) : (updMP f k v).lookup j = if j == k then some v else f.lookup j := by
  induction f with
  | nil => simp only [updMP, List.lookup]; split <;> simp_all
  | cons p r ih =>
    obtain ⟨a, b⟩ := p
    simp only [updMP]
    by_cases e : k = a
    · subst e
      simp only [beq_self_eq_true, if_true, List.lookup]
      by_cases e2 : j = k
      · subst e2; simp
      · have : (j == k) = false := by simpa using e2
        simp [this]
    · have e0 : (k == a) = false := by simpa using e
      rw [e0]
      simp only [Bool.false_eq_true, if_false, List.lookup]
      by_cases e2 : j = a
      · subst e2
        have : (j == k) = false := by simpa using fun h => e h.symm
        simp [this]
      · have : (j == a) = false := by simpa using e2
        simp [this, ih]
theorem lookup_append1P (f : List (K2 × α)) (k j : K2) (v : α) (hk : f.lookup k = none) : (f ++ [(k, v)]).lookup j = if j == k then some v else f.lookup j := by
  induction f with
  | nil => simp only [List.nil_append, List.lookup]; split <;> simp_all
  | cons p r ih =>
    obtain ⟨a, b⟩ := p
    simp only [List.lookup] at hk
    split at hk
    · cases hk
    · rename_i h1
      simp only [List.cons_append, List.lookup, ih hk]
      by_cases e2 : j = a
      · subst e2
        have : (j == k) = false := by
          have := h1
          simp at this ⊢
          exact fun h => this h.symm
        simp [this]
      · have : (j == a) = false := by simpa using e2
        simp [this]
theorem lookup_addMP (f : List (K2 × α)) (k j : K2) (v : α) : (addMP f k v).lookup j = if j == k then some ((f.lookup k).getD v) else f.lookup j := by
  unfold addMP
  cases hl : f.lookup k with
  | none =>
    simp only [Option.isSome_none, Bool.false_eq_true, if_false, Option.getD_none]
    exact lookup_append1P f k j v hl
  | some u =>
    simp only [Option.isSome_some, if_true, Option.getD_some]
    by_cases e : j = k
    · subst e; simp [hl]
    · have : (j == k) = false := by simpa using e
      simp [this]
theorem mem_lookupP {f : List (K2 × α)} {k : K2} {v : α} (h : f.lookup k = some v) : (k, v) ∈ f := by
  induction f with
  | nil => simp at h
  | cons p r ih =>
    obtain ⟨a, b⟩ := p
    simp only [List.lookup] at h
    split at h
    · rename_i h1
      have : k = a := by simpa using h1
      cases h; subst this
      exact List.mem_cons_self ..
    · exact List.mem_cons_of_mem _ (ih h)
theorem lookup_noneP {f : List (K2 × α)} {k : K2} (h : f.lookup k = none) : k ∉ f.map (·.1) := by
  induction f with
  | nil => simp
  | cons p r ih =>
    obtain ⟨a, b⟩ := p
    simp only [List.lookup] at h
    split at h
    · cases h
    · rename_i h1
      simp only [List.map_cons, List.mem_cons, not_or]
      exact ⟨by simpa using h1, ih h⟩
theorem updM_newP {f : List (K2 × α)} {k : K2} {v : α} (h : f.lookup k = none) : updMP f k v = f ++ [(k, v)] := by
  induction f with
  | nil => rfl
  | cons p r ih =>
    obtain ⟨a, b⟩ := p
    simp only [List.lookup] at h
    split at h
    · cases h
    · rename_i h1
      simp only [updMP, h1, Bool.false_eq_true, if_false, ih h, List.cons_append]
theorem updM_keysP {f : List (K2 × α)} {k : K2} {v : α} (hk : (f.lookup k).isSome) : (updMP f k v).map (·.1) = f.map (·.1) := by
  induction f with
  | nil => simp at hk
  | cons p r ih =>
    obtain ⟨a, b⟩ := p
    simp only [updMP]
    split
    · rfl
    · rename_i h1
      simp only [List.lookup] at hk
      split at hk
      · rename_i h2; rw [h2] at h1; exact absurd rfl h1
      · simp [ih hk]
/-- The place of a key. -/
def findMP : List (K2 × α) → K2 → Nat → Option (Nat × α)
  | [], _, _ => none
  | p :: r, k, i => if k == p.1 then some (i, p.2) else findMP r k (i + 1)
theorem findM_lookupP (f : List (K2 × α)) (k : K2) : ∀ i, (findMP f k i).map (·.2) = f.lookup k := by
  induction f with
  | nil => intro i; rfl
  | cons p r ih =>
    intro i
    obtain ⟨a, b⟩ := p
    simp only [findMP, List.lookup]
    by_cases e : k = a
    · subst e; simp
    · have : (k == a) = false := by simpa using e
      simp [this, ih]
theorem findM_specP (f : List (K2 × α)) (k : K2) : ∀ i j v, findMP f k i = some (j, v) → i ≤ j ∧ f[j - i]? = some (k, v) ∧ ∀ u, updMP f k u = f.set (j - i) (k, u) := by
  induction f with
  | nil => intro i j v h; cases h
  | cons p r ih =>
    intro i j v h
    obtain ⟨a, b⟩ := p
    simp only [findMP] at h
    by_cases e : k = a
    · subst e
      simp only [beq_self_eq_true, if_true, Option.some.injEq, Prod.mk.injEq] at h
      obtain ⟨rfl, rfl⟩ := h
      refine ⟨Nat.le_refl _, by simp, fun u => ?_⟩
      simp [updMP]
    · have e0 : (k == a) = false := by simpa using e
      rw [e0] at h
      simp only [Bool.false_eq_true, if_false] at h
      obtain ⟨h1, h2, h3⟩ := ih _ _ _ h
      have hj : j - i = (j - (i + 1)) + 1 := by omega
      refine ⟨by omega, by rw [hj, List.getElem?_cons_succ]; exact h2, fun u => ?_⟩
      rw [hj, List.set_cons_succ]
      simp only [updMP, e0, Bool.false_eq_true, if_false, h3 u]
theorem vals_updMP (f : List (K2 × α)) (k : K2) (v : α) : valsP toV (updMP f k v) = updMP (valsP toV f) k (toV v) := by
  induction f with
  | nil => rfl
  | cons p r ih =>
    simp only [valsP, updMP, List.map_cons]
    split
    · rfl
    · simp only [List.map_cons, List.cons.injEq, true_and]; exact ih
theorem vals_lookupP (f : List (K2 × α)) (k : K2) : (valsP toV f).lookup k = (f.lookup k).map toV := by
  induction f with
  | nil => rfl
  | cons p r ih =>
    obtain ⟨a, b⟩ := p
    simp only [valsP, List.map_cons, List.lookup]
    split
    · rfl
    · exact ih
theorem vals_addMP (f : List (K2 × α)) (k : K2) (v : α) : valsP toV (addMP f k v) = addMP (valsP toV f) k (toV v) := by
  unfold addMP
  rw [vals_lookupP]
  cases f.lookup k <;> simp [valsP]
end

/-! ### What the model does -/
section
variable {P : Program} {T : TTab} {n : Nat} {L : Frm} {h : Hp} {o : Oper} {B : Base}

theorem run_part1 (hT : TTab.Ok P T) {e : Nat} {kd : IntKind} (h2 : T.desc e = some (.int kd)) {cs : Array Value} {i : Nat} {v : Value} (hv : cs[i]? = some v) {w : World} : (part e cs i).run P w = .ok v w := by
  have hna : nonAgg T e = true := by simp [nonAgg, h2]
  simp [part, nonAgg_run hT hna, hv, Result.andThen]
theorem run_eqPair (hT : TTab.Ok P T) {kt : Nat} {kd : IntKind} {a b : K2} {w : World} (hk : KeyD T kt kd) : ∀ d, (Op.equalIn (d + 2) kt (pk kd a) (pk kd b)).run P w = .ok (a == b) w := by
  intro d
  obtain ⟨e, h1, h2, h3⟩ := hk
  obtain ⟨a1, a2⟩ := a
  obtain ⟨b1, b2⟩ := b
  have p0 : ∀ x y : Int, (part e #[Value.int kd x, Value.int kd y] 0).run P w = .ok (.int kd x) w := fun x y => run_part1 hT h2 (by simp)
  have p1 : ∀ x y : Int, (part e #[Value.int kd x, Value.int kd y] 1).run P w = .ok (.int kd y) w := fun x y => run_part1 hT h2 (by simp)
  have q : ∀ x y : Int, (Op.equalIn (d + 1) e (.int kd x) (.int kd y)).run P w = .ok (x == y) w := by
    intro x y
    simp [Op.equalIn, TTab.desc_run hT h2, Result.andThen]
  unfold pk
  rw [Op.equalIn]
  simp only [Sem.run_bind, TTab.desc_run hT h1, TTab.size_run hT h3, Result.andThen_ok]
  simp only [Std.Legacy.Range.forIn_eq_forIn_range', Std.Legacy.Range.size, Nat.sub_zero, Nat.add_sub_cancel, Nat.div_one, List.range'_succ, List.range'_zero, List.forIn_cons, List.forIn_nil]
  by_cases e1 : a1 = b1 <;> by_cases e2 : a2 = b2 <;> simp [p0, p1, q, e1, e2, Result.andThen]
open Instr in
theorem findAsking_run (hT : TTab.Ok P T) {kt : Nat} {kd : IntKind} {key : K2} {w : World} (hk : KeyD T kt kd) : ∀ (l : List MapEntry) (f : List (K2 × Value)) (i : Nat), l.map (fun e => (e.key, e.val)) = f.map (fun p => (pk kd p.1, p.2)) →
    (findAsking kt (pk kd key) l i).run P w = .ok (findMP f key i) w := by
  intro l
  induction l with
  | nil =>
    intro f i hf
    cases f with
    | nil => rfl
    | cons => simp at hf
  | cons e r ih =>
    intro f i hf
    cases f with
    | nil => simp at hf
    | cons p q =>
      simp only [List.map_cons, List.cons.injEq, Prod.mk.injEq] at hf
      obtain ⟨⟨h1, h2⟩, h3⟩ := hf
      unfold findAsking
      rw [h1]
      have he : (Op.equal kt (pk kd key) (pk kd p.1)).run P w = .ok (key == p.1) w := run_eqPair hT hk _
      simp only [Sem.run_bind, he, Result.andThen_ok, findMP]
      by_cases e0 : key = p.1
      · subst e0; simp [h2]
      · have e0 : (key == p.1) = false := by simpa using e0
        simp [e0, ih q (i + 1) h3]
open Instr in
theorem run_findKeyP (hT : TTab.Ok P T) {kt : Nat} {kd : IntKind} {key : K2} {es : Array MapEntry} {c : Nat} {f : List (K2 × Value)} {w : World} (hk : KeyD T kt kd) (he : EntsP kd es c f) :
    (findKey kt (pk kd key) es.toList).run P w = .ok (findMP f key 0) w := by
  obtain ⟨e, h1, h2, h3⟩ := hk
  have ha := he.all
  unfold findKey
  simp only [Sem.run_bind, TTab.desc_run hT h1, Result.andThen_ok]
  cases hl : es.toList with
  | nil =>
    rw [hl] at ha
    cases f with
    | nil => simp [findNow, findMP]
    | cons => simp at ha
  | cons x r =>
    have : findNow (.array 2 e) (pk kd key) (x :: r) 0 = none := by simp [findNow, sameNow]
    rw [this]
    simp only
    rw [hl] at ha
    exact findAsking_run hT ⟨e, h1, h2, h3⟩ _ _ _ ha
open Instr in
theorem run_findKeyP0 (hT : TTab.Ok P T) {kt : Nat} {kd : IntKind} {key : K2} {w : World} (hk : KeyD T kt kd) : (findKey kt (pk kd key) []).run P w = .ok none w := by
  obtain ⟨e, h1, h2, h3⟩ := hk
  simp [findKey, TTab.desc_run hT h1, Result.andThen, findNow]
open Instr in
theorem run_checkKeyP (hT : TTab.Ok P T) {kt : Nat} {kd : IntKind} {key : K2} {b : Bool} {w : World} (hk : KeyD T kt kd) : (checkKey b 10000 kt (pk kd key)).run P w = .ok () w := by
  obtain ⟨e, h1, h2, h3⟩ := hk
  obtain ⟨a1, a2⟩ := key
  have p0 : ∀ x y : Int, (part e #[Value.int kd x, Value.int kd y] 0).run P w = .ok (.int kd x) w := fun x y => run_part1 hT h2 (by simp)
  have p1 : ∀ x y : Int, (part e #[Value.int kd x, Value.int kd y] 1).run P w = .ok (.int kd y) w := fun x y => run_part1 hT h2 (by simp)
  have q : ∀ x : Int, (checkKey b (9998 + 1) e (.int kd x)).run P w = .ok () w := fun x => run_checkKey0 hT h2 _
  unfold pk
  rw [show (10000 : Nat) = 9999 + 1 from rfl, checkKey]
  simp only [Sem.run_bind, TTab.desc_run hT h1, Result.andThen_ok]
  simp only [Std.Legacy.Range.forIn_eq_forIn_range', Std.Legacy.Range.size, Nat.sub_zero, Nat.add_sub_cancel, Nat.div_one, List.range'_succ, List.range'_zero, List.forIn_cons, List.forIn_nil]
  simp [TTab.size_run hT h3, p0, p1, q, Result.andThen]

theorem Rel.mapEsP {H : Heap} (hr : Rel h H) {kd : IntKind} {x : Option Nat} {f : List (K2 × Value)} (hm : Lift.mapEsP kd h.m x f) : Lift.mapEsP kd H x f := by
  cases x with
  | none => exact hm
  | some r =>
    obtain ⟨es, c, h1, h2⟩ := hm
    exact ⟨es, c, hr.block h1 map_ne_junk, h2⟩

theorem Quiet1.lookMP {α : Type} {t kt e : Nat} {x i : Operand} {kd : IntKind} {toV : α → Value} {zero : α} {m : Option Nat} {key : K2} {f : List (K2 × α)} (hT : TTab.Ok P T) (hop : o.op = .lookup t x i true) (ht : T.desc t = some (.map kt e)) (hk : KeyD T kt kd) (hz : zeroIs P e = some (toV zero))
    (hx : L.ev x = some (.map m)) (hi : L.ev i = some (pk kd key)) (hf : Lift.mapEsP kd h.m m (valsP toV f)) {r : α × Bool} (hr : (match f.lookup key with | some v => (v, true) | none => (zero, false)) = r) : Quiet1 P n L h o (.tuple #[toV r.1, .bool r.2]) := by
  intro ac w ha hw
  have hm := hw.mapEsP hf
  have hl := findM_lookupP (valsP toV f) key 0
  rw [vals_lookupP] at hl
  have hr1 : toV r.1 = match f.lookup key with | some v => toV v | none => toV zero := by subst hr; cases f.lookup key <;> rfl
  have hr2 : r.2 = (f.lookup key).isSome := by subst hr; cases f.lookup key <;> rfl
  cases m with
  | none =>
    simp only [Lift.mapEsP] at hm
    have hf0 : f = [] := by cases f with | nil => rfl | cons => simp [valsP] at hm
    subst hf0
    simp only [List.lookup] at hr
    subst hr
    simp [execOp, hop, ha.eval hx, ha.eval hi, Instr.lookup, TTab.desc_run hT ht, Result.andThen, run_checkKeyP hT hk, run_findKeyP0 hT hk, run_zero hz]
  | some q =>
    obtain ⟨es, c, h1, h2⟩ := hm
    simp only [execOp, hop, ha.eval hx, ha.eval hi]
    cases hq : f.lookup key with
    | none =>
      rw [hq] at hl hr1 hr2
      have hn : findMP (valsP toV f) key 0 = none := by simpa using hl
      simp [Instr.lookup, TTab.desc_run hT ht, Result.andThen, run_getObj h1, run_checkKeyP hT hk, run_findKeyP hT hk h2, hn, run_zero hz, hr1, hr2]
    | some v =>
      rw [hq] at hl hr1 hr2
      cases hn : findMP (valsP toV f) key 0 with
      | none => simp [hn] at hl
      | some p =>
        obtain ⟨a, b⟩ := p
        simp [hn] at hl
        simp [Instr.lookup, TTab.desc_run hT ht, Result.andThen, run_getObj h1, run_checkKeyP hT hk, run_findKeyP hT hk h2, hn, hr1, hr2, hl]
theorem Quiet1.lookM1P {α : Type} {t kt e : Nat} {x i : Operand} {kd : IntKind} {toV : α → Value} {zero : α} {m : Option Nat} {key : K2} {f : List (K2 × α)} (hT : TTab.Ok P T) (hop : o.op = .lookup t x i false) (ht : T.desc t = some (.map kt e)) (hk : KeyD T kt kd) (hz : zeroIs P e = some (toV zero))
    (hx : L.ev x = some (.map m)) (hi : L.ev i = some (pk kd key)) (hf : Lift.mapEsP kd h.m m (valsP toV f)) {r : α × Bool} (hr : (match f.lookup key with | some v => (v, true) | none => (zero, false)) = r) : Quiet1 P n L h o (toV r.1) := by
  intro ac w ha hw
  have hm := hw.mapEsP hf
  have hl := findM_lookupP (valsP toV f) key 0
  rw [vals_lookupP] at hl
  have hr1 : toV r.1 = match f.lookup key with | some v => toV v | none => toV zero := by subst hr; cases f.lookup key <;> rfl
  cases m with
  | none =>
    simp only [Lift.mapEsP] at hm
    have hf0 : f = [] := by cases f with | nil => rfl | cons => simp [valsP] at hm
    subst hf0
    simp only [List.lookup] at hr
    subst hr
    simp [execOp, hop, ha.eval hx, ha.eval hi, Instr.lookup, TTab.desc_run hT ht, Result.andThen, run_checkKeyP hT hk, run_findKeyP0 hT hk, run_zero hz]
  | some q =>
    obtain ⟨es, c, h1, h2⟩ := hm
    simp only [execOp, hop, ha.eval hx, ha.eval hi]
    cases hq : f.lookup key with
    | none =>
      rw [hq] at hl hr1
      have hn : findMP (valsP toV f) key 0 = none := by simpa using hl
      simp [Instr.lookup, TTab.desc_run hT ht, Result.andThen, run_getObj h1, run_checkKeyP hT hk, run_findKeyP hT hk h2, hn, run_zero hz, hr1]
    | some v =>
      rw [hq] at hl hr1
      cases hn : findMP (valsP toV f) key 0 with
      | none => simp [hn] at hl
      | some p =>
        obtain ⟨a, b⟩ := p
        simp [hn] at hl
        simp [Instr.lookup, TTab.desc_run hT ht, Result.andThen, run_getObj h1, run_checkKeyP hT hk, run_findKeyP hT hk h2, hn, hr1, hl]

theorem Quiet1.lookMVP {α : Type} {t kt e : Nat} {x i : Operand} {kd : IntKind} {toV : α → Value} {zero : α} {m : Option Nat} {key : K2} {v : α × Bool} (hT : TTab.Ok P T) (hop : o.op = .lookup t x i true) (ht : T.desc t = some (.map kt e)) (hk : KeyD T kt kd) (hz : zeroIs P e = some (toV zero))
    (hx : L.ev x = some (.map m)) (hi : L.ev i = some (pk kd key)) (H : Lift.lookMP kd toV zero m key h.m fun r_ => r_ = v) : Quiet1 P n L h o (.tuple #[toV v.1, .bool v.2]) := by
  obtain ⟨f, r, hf, hr, rfl⟩ := H
  exact Quiet1.lookMP hT hop ht hk hz hx hi hf hr
theorem Quiet1.lookM1VP {α : Type} {t kt e : Nat} {x i : Operand} {kd : IntKind} {toV : α → Value} {zero : α} {m : Option Nat} {key : K2} {v : α} (hT : TTab.Ok P T) (hop : o.op = .lookup t x i false) (ht : T.desc t = some (.map kt e)) (hk : KeyD T kt kd) (hz : zeroIs P e = some (toV zero))
    (hx : L.ev x = some (.map m)) (hi : L.ev i = some (pk kd key)) (H : Lift.lookMP kd toV zero m key h.m fun r_ => r_.1 = v) : Quiet1 P n L h o (toV v) := by
  obtain ⟨f, r, hf, hr, rfl⟩ := H
  exact Quiet1.lookM1P hT hop ht hk hz hx hi hf hr
theorem Quiet1.lookMV {α : Type} {t kt e : Nat} {x i : Operand} {kd : IntKind} {toV : α → Value} {zero : α} {m : Option Nat} {key : Int} {v : α × Bool} (hT : TTab.Ok P T) (hop : o.op = .lookup t x i true) (ht : T.desc t = some (.map kt e)) (hk : T.desc kt = some (.int kd)) (hz : zeroIs P e = some (toV zero))
    (hx : L.ev x = some (.map m)) (hi : L.ev i = some (.int kd key)) (H : Lift.lookM kd toV zero m key h.m fun r_ => r_ = v) : Quiet1 P n L h o (.tuple #[toV v.1, .bool v.2]) := by
  obtain ⟨f, r, hf, hr, rfl⟩ := H
  exact Quiet1.lookM hT hop ht hk hz hx hi hf hr
theorem Quiet1.lookM1V {α : Type} {t kt e : Nat} {x i : Operand} {kd : IntKind} {toV : α → Value} {zero : α} {m : Option Nat} {key : Int} {v : α} (hT : TTab.Ok P T) (hop : o.op = .lookup t x i false) (ht : T.desc t = some (.map kt e)) (hk : T.desc kt = some (.int kd)) (hz : zeroIs P e = some (toV zero))
    (hx : L.ev x = some (.map m)) (hi : L.ev i = some (.int kd key)) (H : Lift.lookM kd toV zero m key h.m fun r_ => r_.1 = v) : Quiet1 P n L h o (toV v) := by
  obtain ⟨f, r, hf, hr, rfl⟩ := H
  exact Quiet1.lookM1 hT hop ht hk hz hx hi hf hr
theorem run_keyStaysP {kd : IntKind} {a : K2} {w : World} : (Instr.keyThatStays (pk kd a) (pk kd a)).run P w = .ok (pk kd a) w := by
  have : Instr.sameBits 10000 (pk kd a) (pk kd a) = true := by
    unfold pk
    rw [show (10000 : Nat) = 9999 + 1 from rfl, Instr.sameBits]
    simp [sameBits_int]
  simp [Instr.keyThatStays, this]
theorem nodup_injP {l : List K2} (hn : l.Nodup) {i j : Nat} {hi : i < l.length} {hj : j < l.length} (h : l[i] = l[j]) : i = j := by
  have hp := List.pairwise_iff_getElem.1 hn
  rcases Nat.lt_trichotomy i j with hlt | he | hlt
  · exact absurd h (hp i j hi hj hlt)
  · exact he
  · exact absurd h.symm (hp j i hj hi hlt)
theorem EntsP.nil {kd : IntKind} : EntsP kd #[] 0 [] := ⟨rfl, by simp, by simp, by simp⟩
theorem EntsP.push {kd : IntKind} {es : Array MapEntry} {c : Nat} {f : List (K2 × Value)} (he : EntsP kd es c f) {key : K2} {v : Value} (hk : f.lookup key = none) :
    EntsP kd (es.push ⟨pk kd key, v, c⟩) (c + 1) (f ++ [(key, v)]) := by
  refine ⟨?_, ?_, ?_, ?_⟩
  · simp [he.all]
  · rw [Array.toList_push, List.map_append, List.nodup_append]
    refine ⟨he.born, by simp, ?_⟩
    intro a ha b hb
    simp only [List.map_cons, List.map_nil, List.mem_singleton] at hb
    obtain ⟨e, he', rfl⟩ := List.mem_map.1 ha
    have := he.clock e he'
    omega
  · intro e hm
    rw [Array.toList_push, List.mem_append] at hm
    rcases hm with hm | hm
    · have := he.clock e hm; omega
    · simp only [List.mem_singleton] at hm; subst hm; exact Nat.lt_succ_self _
  · rw [List.map_append, List.nodup_append]
    refine ⟨he.keys, by simp, ?_⟩
    intro a ha b hb
    simp only [List.map_cons, List.map_nil, List.mem_singleton] at hb
    subst hb
    intro e; subst e
    exact lookup_noneP hk ha
theorem EntsP.len {kd : IntKind} {es : Array MapEntry} {c : Nat} {f : List (K2 × Value)} (he : EntsP kd es c f) : es.size = f.length := by
  have := congrArg List.length he.all
  simpa using this
theorem EntsP.at {kd : IntKind} {es : Array MapEntry} {c : Nat} {f : List (K2 × Value)} (he : EntsP kd es c f) {i : Nat} {key : K2} {v : Value} (hf : f[i]? = some (key, v)) : ∃ e, es[i]? = some e ∧ e.key = pk kd key ∧ e.val = v := by
  have hl := he.len
  obtain ⟨hi, hv⟩ := List.getElem?_eq_some_iff.1 hf
  have hi' : i < es.size := by omega
  have := congrArg (fun l => l[i]?) he.all
  simp only [List.getElem?_map, hf, Option.map_some, Array.getElem?_toList, Array.getElem?_eq_getElem hi', Option.some.injEq, Prod.mk.injEq] at this
  exact ⟨es[i], Array.getElem?_eq_getElem hi', this.1, this.2⟩
theorem EntsP.set {kd : IntKind} {es : Array MapEntry} {c : Nat} {f : List (K2 × Value)} (he : EntsP kd es c f) {i : Nat} {key : K2} {v u : Value} (hf : f[i]? = some (key, v)) {g : MapEntry → MapEntry}
    (hg : ∀ e, e.key = pk kd key → (g e).key = pk kd key ∧ (g e).val = u ∧ (g e).born = e.born) : EntsP kd (es.modify i g) c (f.set i (key, u)) := by
  obtain ⟨e0, h1, h2, h3⟩ := he.at hf
  obtain ⟨hi, hv⟩ := List.getElem?_eq_some_iff.1 hf
  have hl := he.len
  have hb : (es.modify i g).toList.map (·.born) = es.toList.map (·.born) := by
    apply List.ext_getElem?
    intro j
    simp only [List.getElem?_map, Array.getElem?_toList, Array.getElem?_modify]
    by_cases e : i = j
    · subst e; simp [h1, (hg e0 h2).2.2]
    · simp [e]
  refine ⟨?_, by rw [hb]; exact he.born, ?_, ?_⟩
  · apply List.ext_getElem?
    intro j
    have hj := congrArg (fun l => l[j]?) he.all
    simp only [List.getElem?_map, Array.getElem?_toList] at hj ⊢
    rw [Array.getElem?_modify, List.getElem?_set]
    by_cases e : i = j
    · subst e
      simp [h1, hi, (hg e0 h2).1, (hg e0 h2).2.1]
    · simp only [e, if_false]; exact hj
  · intro e hm
    have : e.born ∈ (es.modify i g).toList.map (·.born) := List.mem_map_of_mem hm
    rw [hb] at this
    obtain ⟨e', h', h''⟩ := List.mem_map.1 this
    have := he.clock e' h'
    omega
  · have : (f.set i (key, u)).map (·.1) = f.map (·.1) := by
      apply List.ext_getElem?
      intro j
      rw [List.getElem?_map, List.getElem?_map, List.getElem?_set]
      by_cases e : i = j
      · subst e; simp [hi, hf]; rw [hv]
      · simp [e]
    rw [this]; exact he.keys

theorem Eff.setMP {α : Type} {t kt e : Nat} {x i y : Operand} {kd : IntKind} {toV : α → Value} {m : Option Nat} {key : K2} {v : α} {k : Heap → Prop} (hT : TTab.Ok P T) (hop : o.op = .mapUpdate t x i y) (ht : T.desc t = some (.map kt e)) (hk : KeyD T kt kd)
    (hx : L.ev x = some (.map m)) (hi : L.ev i = some (pk kd key)) (hy : L.ev y = some (toV v)) (H : Lift.setMP kd toV m key v h.m k) :
    Eff P n B L h o (fun _ h' => ∃ m, h' = ⟨m, h.pv⟩ ∧ k m) := by
  intro ac w ha hw next Q hn
  obtain ⟨r, f, rfl, ⟨es, c, h1, h2⟩, hk'⟩ := H
  have hH := hw.rel.block h1 map_ne_junk
  have hl := findM_lookupP (valsP toV f) key 0
  cases hq : findMP (valsP toV f) key 0 with
  | none =>
    rw [hq] at hl
    have hl : (valsP toV f).lookup key = none := hl.symm
    have hrun : (execOp ac.eval o).run P w = .ok .skip { w with heap := w.heap.setIfInBounds r (.map (es.push ⟨pk kd key, toV v, c⟩) (c + 1)) } := by
      simp [execOp, hop, ha.eval hx, ha.eval hi, ha.eval hy, Instr.mapUpdate, TTab.desc_run hT ht, Result.andThen, run_getObj hH, run_checkKeyP hT hk, run_findKeyP hT hk h2, hq, run_setObj hH]
    unfold Oper.wp
    rw [hrun]
    refine hn _ _ _ (hw.setMap h1) ⟨_, rfl, hk' _ _ ?_⟩
    rw [vals_updMP, updM_newP hl]
    exact h2.push hl
  | some p =>
    obtain ⟨j, u⟩ := p
    obtain ⟨_, f1, f2⟩ := findM_specP _ _ _ _ _ hq
    obtain ⟨e0, g1, g2, g3⟩ := h2.at f1
    simp only [Nat.sub_zero] at f1 g1 f2
    have hrun : (execOp ac.eval o).run P w = .ok .skip { w with heap := w.heap.setIfInBounds r (.map (es.modify j fun e => { e with key := pk kd key, val := toV v }) c) } := by
      simp [execOp, hop, ha.eval hx, ha.eval hi, ha.eval hy, Instr.mapUpdate, TTab.desc_run hT ht, Result.andThen, run_getObj hH, run_checkKeyP hT hk, run_findKeyP hT hk h2, hq, run_setObj hH, g1, g2, run_keyStaysP]
    unfold Oper.wp
    rw [hrun]
    refine hn _ _ _ (hw.setMap h1) ⟨_, rfl, hk' _ _ ?_⟩
    rw [vals_updMP, f2]
    exact h2.set f1 (fun e _ => ⟨rfl, rfl, rfl⟩)

theorem Eff.insMP {α : Type} {t kt e : Nat} {x i y : Operand} {kd : IntKind} {toV : α → Value} {m : Option Nat} {key : K2} {v : α} {k : Heap → Prop} (hT : TTab.Ok P T) (hop : o.op = .insert t x i y) (ht : T.desc t = some (.map kt e)) (hk : KeyD T kt kd)
    (hx : L.ev x = some (.map m)) (hi : L.ev i = some (pk kd key)) (hy : L.ev y = some (toV v)) (H : Lift.setMP kd toV m key v h.m k) :
    Eff P n B L h o (fun _ h' => ∃ m, h' = ⟨m, h.pv⟩ ∧ k m) := by
  intro ac w ha hw next Q hn
  obtain ⟨r, f, rfl, ⟨es, c, h1, h2⟩, hk'⟩ := H
  have hH := hw.rel.block h1 map_ne_junk
  have hl := findM_lookupP (valsP toV f) key 0
  cases hq : findMP (valsP toV f) key 0 with
  | none =>
    rw [hq] at hl
    have hl : (valsP toV f).lookup key = none := hl.symm
    have hrun : (execOp ac.eval o).run P w = .ok .skip { w with heap := w.heap.setIfInBounds r (.map (es.push ⟨pk kd key, toV v, c⟩) (c + 1)) } := by
      simp [execOp, hop, ha.eval hx, ha.eval hi, ha.eval hy, Instr.mapUpdate, TTab.desc_run hT ht, Result.andThen, run_getObj hH, run_checkKeyP hT hk, run_findKeyP hT hk h2, hq, run_setObj hH]
    unfold Oper.wp
    rw [hrun]
    refine hn _ _ _ (hw.setMap h1) ⟨_, rfl, hk' _ _ ?_⟩
    rw [vals_updMP, updM_newP hl]
    exact h2.push hl
  | some p =>
    obtain ⟨j, u⟩ := p
    obtain ⟨_, f1, f2⟩ := findM_specP _ _ _ _ _ hq
    obtain ⟨e0, g1, g2, g3⟩ := h2.at f1
    simp only [Nat.sub_zero] at f1 g1 f2
    have hrun : (execOp ac.eval o).run P w = .ok .skip { w with heap := w.heap.setIfInBounds r (.map (es.modify j fun e => { e with key := pk kd key, val := toV v }) c) } := by
      simp [execOp, hop, ha.eval hx, ha.eval hi, ha.eval hy, Instr.mapUpdate, TTab.desc_run hT ht, Result.andThen, run_getObj hH, run_checkKeyP hT hk, run_findKeyP hT hk h2, hq, run_setObj hH, g1, g2, run_keyStaysP]
    unfold Oper.wp
    rw [hrun]
    refine hn _ _ _ (hw.setMap h1) ⟨_, rfl, hk' _ _ ?_⟩
    rw [vals_updMP, f2]
    exact h2.set f1 (fun e _ => ⟨rfl, rfl, rfl⟩)

theorem addM_oldP {α : Type} {f : List (K2 × α)} {k : K2} {v u : α} (h : f.lookup k = some u) : addMP f k v = f := by simp [addMP, h]
theorem addM_newP {α : Type} {f : List (K2 × α)} {k : K2} {v : α} (h : f.lookup k = none) : addMP f k v = f ++ [(k, v)] := by simp [addMP, h]
theorem Eff.entryMP {α : Type} {t kt e : Nat} {x i : Operand} {kd : IntKind} {toV : α → Value} {zero : α} {m : Option Nat} {key : K2} {k : α × Int → Heap → Prop} (hT : TTab.Ok P T) (hop : o.op = .mapEntry t x i) (ht : T.desc t = some (.map kt e)) (hk : KeyD T kt kd) (hz : zeroIs P e = some (toV zero))
    (hx : L.ev x = some (.map m)) (hi : L.ev i = some (pk kd key)) (H : Lift.entryMP kd toV zero m key h.m k) :
    Eff P n B L h o (fun v h' => ∃ (r : α × Int) (m : Heap), v = Value.tuple #[toV r.1, .int .i64 r.2] ∧ h' = ⟨m, h.pv⟩ ∧ k r m) := by
  intro ac w ha hw next Q hn
  obtain ⟨r, f, rfl, ⟨es, c, h1, h2⟩, hk'⟩ := H
  have hH := hw.rel.block h1 map_ne_junk
  have hl := findM_lookupP (valsP toV f) key 0
  rw [vals_lookupP] at hl
  cases hq : findMP (valsP toV f) key 0 with
  | none =>
    rw [hq] at hl
    have hl1 : f.lookup key = none := by cases hf : f.lookup key <;> simp_all
    have hl2 : (valsP toV f).lookup key = none := by rw [vals_lookupP, hl1]; rfl
    have hrun : (execOp ac.eval o).run P w = .ok (.value (.tuple #[toV zero, .int .i64 (c : Int)])) { w with heap := w.heap.setIfInBounds r (.map (es.push ⟨pk kd key, toV zero, c⟩) (c + 1)) } := by
      simp [execOp, hop, ha.eval hx, ha.eval hi, Instr.mapEntry, TTab.desc_run hT ht, Result.andThen, run_getObj hH, run_checkKeyP hT hk, run_findKeyP hT hk h2, hq, run_setObj hH, run_zero hz, goInt]
    unfold Oper.wp
    rw [hrun]
    refine hn _ _ _ (hw.setMap h1) ⟨_, _, ?_, rfl, hk' _ _ (c : Int) ?_ ?_⟩
    · simp [hl1]
    · rw [vals_addMP, addM_newP hl2]; exact h2.push hl2
    · exact ⟨es.size, ⟨pk kd key, toV zero, c⟩, by simp, rfl, rfl⟩
  | some p =>
    obtain ⟨j, u⟩ := p
    obtain ⟨_, f1, f2⟩ := findM_specP _ _ _ _ _ hq
    obtain ⟨e0, g1, g2, g3⟩ := h2.at f1
    simp only [Nat.sub_zero] at f1 g1 f2
    rw [hq] at hl
    cases hf : f.lookup key with
    | none => simp [hf] at hl
    | some b =>
    simp only [hf, Option.map_some, Option.some.injEq] at hl
    have hl2 : (valsP toV f).lookup key = some (toV b) := by rw [vals_lookupP, hf]; rfl
    have hrun : (execOp ac.eval o).run P w = .ok (.value (.tuple #[u, .int .i64 (e0.born : Int)])) { w with heap := w.heap.setIfInBounds r (.map (es.modify j fun e => { e with key := pk kd key }) c) } := by
      simp [execOp, hop, ha.eval hx, ha.eval hi, Instr.mapEntry, TTab.desc_run hT ht, Result.andThen, run_getObj hH, run_checkKeyP hT hk, run_findKeyP hT hk h2, hq, run_setObj hH, g1, g2, run_keyStaysP, goInt]
    unfold Oper.wp
    rw [hrun]
    refine hn _ _ _ (hw.setMap h1) ⟨_, _, ?_, rfl, hk' _ _ (e0.born : Int) ?_ ?_⟩
    · simp [hf, hl]
    · rw [vals_addMP, addM_oldP hl2]
      have h3 : ∀ e, e.key = pk kd key → ({ e with key := pk kd key } : MapEntry) = e := by intro e he; cases e; simp_all
      have : es.modify j (fun e => { e with key := pk kd key }) = es := by
        apply Array.ext_getElem?
        intro i
        rw [Array.getElem?_modify]
        by_cases ei : j = i
        · subst ei; simp [g1, h3 _ g2]
        · simp [ei]
      rw [this]; exact h2
    · refine ⟨j, { e0 with key := pk kd key }, ?_, rfl, rfl⟩
      simp [Array.getElem?_modify, g1]

theorem Eff.entrySP {α : Type} {t : Nat} {x i y : Operand} {kd : IntKind} {toV : α → Value} {m : Option Nat} {st : Int} {v : α} {k : Heap → Prop} (hop : o.op = .entryStore t x i y)
    (hx : L.ev x = some (.map m)) (hi : L.ev i = some (.int .i64 st)) (hy : L.ev y = some (toV v)) (H : Lift.entrySP kd toV m st v h.m k) :
    Eff P n B L h o (fun _ h' => ∃ m, h' = ⟨m, h.pv⟩ ∧ k m) := by
  intro ac w ha hw next Q hn
  obtain ⟨r, es, c, f, key, rfl, h1, h2, ⟨j, e0, g1, g2, g3⟩, hk'⟩ := H
  have hH := hw.rel.block h1 map_ne_junk
  have hjl := (Array.getElem?_eq_some_iff.1 g1)
  obtain ⟨hj, hje⟩ := hjl
  have hfind : es.findIdx? (fun e => (e.born : Int) == st) = some j := by
    rw [Array.findIdx?_eq_some_iff_getElem]
    refine ⟨hj, by rw [hje]; simpa using g3, ?_⟩
    intro i hij hc
    have hc : ((es[i].born : Nat) : Int) = st := by simpa using hc
    have hb : es[i].born = e0.born := by omega
    have l1 : i < es.toList.length := by simp; omega
    have l2 : j < es.toList.length := by simpa using hj
    have h5 := List.pairwise_iff_getElem.1 h2.born i j (by simp; omega) (by simpa using hj) hij
    simp only [List.getElem_map, Array.getElem_toList, hje] at h5
    exact h5 hb
  have hfl := h2.len
  have hfj : ∃ u, (valsP toV f)[j]? = some (key, u) := by
    have h5 := congrArg (fun l => l[j]?) h2.all
    have hjf : j < (valsP toV f).length := by omega
    simp only [List.getElem?_map, Array.getElem?_toList, g1, Option.map_some, List.getElem?_eq_getElem hjf, Option.some.injEq, Prod.mk.injEq] at h5
    have h6 : (valsP toV f)[j].1 = key := pk_inj (h5.1.symm.trans g2)
    exact ⟨(valsP toV f)[j].2, by rw [List.getElem?_eq_getElem hjf, ← h6]⟩
  obtain ⟨u, hfj⟩ := hfj
  have hrun : (execOp ac.eval o).run P w = .ok .skip { w with heap := w.heap.setIfInBounds r (.map (es.modify j fun e => { e with val := toV v }) c) } := by
    simp [execOp, hop, ha.eval hx, ha.eval hi, ha.eval hy, Instr.entryStore, asInt, asIntOf, Result.andThen, run_getObj hH, hfind, run_setObj hH]
  unfold Oper.wp
  rw [hrun]
  refine hn _ _ _ (hw.setMap h1) ⟨_, rfl, hk' _ ?_⟩
  have hu : updMP (valsP toV f) key (toV v) = (valsP toV f).set j (key, toV v) := by
    cases hq : findMP (valsP toV f) key 0 with
    | none =>
      have h6 := findM_lookupP (valsP toV f) key 0
      rw [hq] at h6
      have h7 := lookup_noneP h6.symm
      exact absurd (List.mem_map_of_mem (f := (·.1)) (List.mem_of_getElem? hfj)) h7
    | some p =>
      obtain ⟨i, u'⟩ := p
      obtain ⟨_, f1, f2⟩ := findM_specP _ _ _ _ _ hq
      simp only [Nat.sub_zero] at f1 f2
      rw [f2]
      have hi := List.getElem?_eq_some_iff.1 f1
      have hj' := List.getElem?_eq_some_iff.1 hfj
      have : i = j := by
        have n1 := h2.keys
        obtain ⟨l1, e1⟩ := hi
        obtain ⟨l2, e2⟩ := hj'
        have : ((valsP toV f).map (·.1))[i]'(by simpa using l1) = ((valsP toV f).map (·.1))[j]'(by simpa using l2) := by simp [e1, e2]
        exact nodup_injP n1 this
      rw [this]
  rw [vals_updMP, hu]
  exact h2.set hfj (fun e he => ⟨he, rfl, rfl⟩)
end
/-! ### The same, at a heap that is written out -/
section
variable {P : Program} {T : TTab} {n : Nat} {L : Frm} {m0 : Heap} {pv0 : List (Nat × List Value)} {o : Oper} {B : Base}
theorem EffX.setMP {α : Type} {t kt e : Nat} {x i y : Operand} {kd : IntKind} {toV : α → Value} {m : Option Nat} {key : K2} {v : α} {k : Heap → Prop} (hT : TTab.Ok P T) (hop : o.op = .mapUpdate t x i y) (ht : T.desc t = some (.map kt e)) (hk : KeyD T kt kd)
    (hx : L.ev x = some (.map m)) (hi : L.ev i = some (pk kd key)) (hy : L.ev y = some (toV v)) (H : Lift.setMP kd toV m key v m0 k) :
    Eff P n B L ⟨m0, pv0⟩ o (fun _ h' => ∃ m, h' = ⟨m, pv0⟩ ∧ k m) := Eff.setMP (h := ⟨m0, pv0⟩) hT hop ht hk hx hi hy H
theorem EffX.insMP {α : Type} {t kt e : Nat} {x i y : Operand} {kd : IntKind} {toV : α → Value} {m : Option Nat} {key : K2} {v : α} {k : Heap → Prop} (hT : TTab.Ok P T) (hop : o.op = .insert t x i y) (ht : T.desc t = some (.map kt e)) (hk : KeyD T kt kd)
    (hx : L.ev x = some (.map m)) (hi : L.ev i = some (pk kd key)) (hy : L.ev y = some (toV v)) (H : Lift.setMP kd toV m key v m0 k) :
    Eff P n B L ⟨m0, pv0⟩ o (fun _ h' => ∃ m, h' = ⟨m, pv0⟩ ∧ k m) := Eff.insMP (h := ⟨m0, pv0⟩) hT hop ht hk hx hi hy H
theorem EffX.entryMP {α : Type} {t kt e : Nat} {x i : Operand} {kd : IntKind} {toV : α → Value} {zero : α} {m : Option Nat} {key : K2} {k : α × Int → Heap → Prop} (hT : TTab.Ok P T) (hop : o.op = .mapEntry t x i) (ht : T.desc t = some (.map kt e)) (hk : KeyD T kt kd) (hz : zeroIs P e = some (toV zero))
    (hx : L.ev x = some (.map m)) (hi : L.ev i = some (pk kd key)) (H : Lift.entryMP kd toV zero m key m0 k) :
    Eff P n B L ⟨m0, pv0⟩ o (fun v h' => ∃ (r : α × Int) (m : Heap), v = Value.tuple #[toV r.1, .int .i64 r.2] ∧ h' = ⟨m, pv0⟩ ∧ k r m) := Eff.entryMP (h := ⟨m0, pv0⟩) hT hop ht hk hz hx hi H
theorem EffX.entrySP {α : Type} {t : Nat} {x i y : Operand} {kd : IntKind} {toV : α → Value} {m : Option Nat} {st : Int} {v : α} {k : Heap → Prop} (hop : o.op = .entryStore t x i y)
    (hx : L.ev x = some (.map m)) (hi : L.ev i = some (.int .i64 st)) (hy : L.ev y = some (toV v)) (H : Lift.entrySP kd toV m st v m0 k) :
    Eff P n B L ⟨m0, pv0⟩ o (fun _ h' => ∃ m, h' = ⟨m, pv0⟩ ∧ k m) := Eff.entrySP (h := ⟨m0, pv0⟩) hop hx hi hy H
end
end Go.Lift

namespace Go.Lift
open Go
section
variable {P : Program} {T : TTab} {n : Nat} {L : Frm} {h : Hp} {o : Oper} {B : Base}
/-- A string of bytes, as it was read. -/
def strIs (s : Sl) (h : Heap) (u : ByteArray) : Prop := strOf s h fun v => v = u
theorem Quiet1.strIs {t u e : Nat} {x : Operand} {s : Sl} {b : ByteArray} (hT : TTab.Ok P T) (hop : o.op = .convert t u x) (ht : T.desc t = some (.slice e)) (he : T.desc e = some (.int .u8)) (hu : T.desc u = some .string)
    (hx : L.ev x = some (.slice s.a s.len s.cap)) (hc : Lift.strIs s h.m b) : Quiet1 P n L h o (.string b) := by
  obtain ⟨ns, h1, rfl⟩ := hc
  exact Quiet1.strOf (s := s) hT hop ht he hu hx h1
/-- All of an array that a pointer leads to. -/
theorem Quiet1.sliceArr {t e sz len : Nat} {x : Operand} {a : Addr} (hT : TTab.Ok P T) (hop : o.op = .slice t x none none none) (ht : T.desc t = some (.array len e)) (hs : T.size e = some sz)
    (hx : L.ev x = some (.pointer (some a))) : Quiet1 P n L h o (.slice (some a) len len) := by
  intro ac w ha hw
  have ha0 : a.add 0 = a := by simp [Addr.add]
  simp [execOp, hop, ha.eval hx, Instr.sliceAt, Instr.sureAddr, Instr.sliceBounds, Result.andThen, TTab.desc_run hT ht, TTab.size_run hT hs, ha0]
theorem Quiet1.makeI {t : Nat} {x : Operand} {v : Value} {d : TypeDesc} (hT : TTab.Ok P T) (hop : o.op = .makeInterface t x) (ht : T.desc t = some d) (hd : ∀ m, d ≠ .interface m) (hx : L.ev x = some v) : Quiet1 P n L h o (.iface t v) := by
  intro ac w ha hw
  cases d with
  | interface m => exact absurd rfl (hd m)
  | _ => simp [execOp, hop, ha.eval hx, Instr.makeInterface, TTab.desc_run hT ht, Result.andThen]
theorem Quiet1.assertI {t u : Nat} {x : Operand} {v : Value} {d : TypeDesc} (hT : TTab.Ok P T) (hop : o.op = .typeAssert x u t false) (ht : T.desc t = some d) (hd : ∀ m, d ≠ .interface m) (hx : L.ev x = some (.iface t v)) : Quiet1 P n L h o v := by
  intro ac w ha hw
  cases d with
  | interface m => exact absurd rfl (hd m)
  | _ => simp [execOp, hop, ha.eval hx, Instr.typeAssert, TTab.desc_run hT ht, Result.andThen]

/-- The method that a type has under a name, of its own, and for its values. -/
def methodIs (P : Program) (t : Nat) (name : String) : Option FuncId :=
  (P.info? t).bind fun i => (i.methods.find? (·.name == name)).bind fun m => match m.path.size == 0, m.func with
    | true, some (f, false) => some f
    | _, _ => none
def noPtr (T : TTab) (t : Nat) : Bool := match T.desc t with
  | some (.pointer _) => false
  | some _ => true
  | none => false
theorem run_method (hT : TTab.Ok P T) {t : Nat} {v : Value} {name : String} {f : FuncId} (hm : methodIs P t name = some f) (ht : noPtr T t = true) (k : Nat) (w : World) : (method (k + 1) t v name).run P w = .ok (f, v) w := by
  unfold methodIs at hm
  cases hi : P.info? t with
  | none => simp [hi] at hm
  | some i =>
    simp only [hi, Option.bind_some] at hm
    cases hf : i.methods.find? (·.name == name) with
    | none => simp [hf] at hm
    | some m =>
      simp only [hf, Option.bind_some] at hm
      split at hm
      · rename_i f' h1 h2
        cases hm
        have hp : m.path = #[] := by
          have : m.path.size = 0 := by simpa using h1
          exact Array.eq_empty_of_size_eq_zero this
        unfold noPtr at ht
        cases hd : T.desc t with
        | none => simp [hd] at ht
        | some d =>
          have hr : (typeInfo t).run P w = .ok i w := by simp [typeInfo, hi, Result.andThen]
          cases d with
          | pointer e => simp [hd] at ht
          | _ => simp [method, hr, Result.andThen, hf, hp, follow, h2, receiverAt, TTab.desc_run hT hd, Place.get]
      · cases hm

theorem Eff.invoke {α : Type} {t : Nat} {name : String} {f : FuncId} {x : Operand} {args : Array Operand} {tys : Array TypeId} {rv : Value} {vs : List Value} {toV : α → Value} {S : α → Heap → Prop} (hT : TTab.Ok P T)
    (hop : o.op = .call ⟨.invoke x name, args, tys⟩) (hx : L.ev x = some (.iface t rv)) (hm : methodIs P t name = some f) (ht : noPtr T t = true) (hcall : ∀ vs w, (callFunc f vs).run P w = .ok (.enter f vs) w)
    (hvs : evArgs L args.toList = some vs) (sh : Heap → Prop) (H0 : sh h.m) (hl : ∀ w m, Rel ⟨m, []⟩ w.heap → sh m → Calls P f (rv :: vs).toArray w (Post ⟨w, m⟩ toV S)) :
    Eff P n B L h o (fun v h' => ∃ r m, v = toV r ∧ h' = ⟨m, h.pv⟩ ∧ S r m) := by
  intro ac w ha hw next Q hn
  have e1 := evArgs_spec ha _ _ hvs
  have e2 : args.map ac.eval = vs.toArray := by rw [← e1, ← Array.toList_map]
  obtain ⟨d, hd⟩ : ∃ d, P.types.size + Made.depth = d + 1 := ⟨P.types.size + (Made.depth - 1), by have : 0 < Made.depth := by decide
                                                                                                  omega⟩
  have : (execOp ac.eval o).run P w = .ok (.enter f (rv :: vs).toArray) w := by
    have e3 : (#[rv] ++ vs.toArray) = (rv :: vs).toArray := by simp
    have e4 : (#[Value.iface t rv] ++ vs.toArray).extract 1 (#[Value.iface t rv] ++ vs.toArray).size = vs.toArray := by simp [Array.extract_append]
    simp [execOp, hop, resolve, ha.eval hx, Go.invoke, e2, callMethod, Result.andThen, hd, run_method hT hm ht, hcall]
  unfold Oper.wp
  rw [this]
  refine (hl w h.m hw.relCall H0).mono ?_
  rintro e w' ⟨r, m, rfl, hs, hS⟩
  exact hn _ _ _ (hw.call hs) ⟨r, m, rfl, rfl, hS⟩
end
section
variable {P : Program} {T : TTab} {n : Nat} {L : Frm} {m0 : Heap} {pv0 : List (Nat × List Value)} {o : Oper} {B : Base}
theorem EffX.invoke {α : Type} {t : Nat} {name : String} {f : FuncId} {x : Operand} {args : Array Operand} {tys : Array TypeId} {rv : Value} {vs : List Value} {toV : α → Value} {S : α → Heap → Prop} (hT : TTab.Ok P T)
    (hop : o.op = .call ⟨.invoke x name, args, tys⟩) (hx : L.ev x = some (.iface t rv)) (hm : methodIs P t name = some f) (ht : noPtr T t = true) (hcall : ∀ vs w, (callFunc f vs).run P w = .ok (.enter f vs) w)
    (hvs : evArgs L args.toList = some vs) (sh : Heap → Prop) (H0 : sh m0) (hl : ∀ w m, Rel ⟨m, []⟩ w.heap → sh m → Calls P f (rv :: vs).toArray w (Post ⟨w, m⟩ toV S)) :
    Eff P n B L ⟨m0, pv0⟩ o (fun v h' => ∃ r m, v = toV r ∧ h' = ⟨m, pv0⟩ ∧ S r m) := Eff.invoke (h := ⟨m0, pv0⟩) hT hop hx hm ht hcall hvs sh H0 hl
end
end Go.Lift

namespace Go.Lift
open Go

def appendZ (sz bytes : Nat) (z : List Value) (s : Sl) (n : Int) (h : Heap) (k : Sl → Heap → Prop) : Prop :=
  (0 < n ∧ n ≤ 70368744177664 ∧ (s.len + n.toNat) * bytes ≤ 2 ^ 46) ∧ oneCells (List.flatten (List.replicate n.toNat z)) = true ∧
    (s.len + n.toNat ≤ s.cap → match s.a with
      | none => k ⟨s.a, s.len + n.toNat, s.cap⟩ h
      | some a => canSet h (a.add (s.len * sz)) (List.flatten (List.replicate n.toNat z)).length 0 ∧ k ⟨s.a, s.len + n.toNat, s.cap⟩ (setCells h (a.add (s.len * sz)) (List.flatten (List.replicate n.toNat z)) 0)) ∧
    (s.cap < s.len + n.toNat → ∃ old, cellsO? h s.a (s.len * sz) = some old ∧
      ∀ (cap : Nat) T (rest : List Value), s.len + n.toNat ≤ cap → rest.length = (cap - (s.len + n.toNat)) * sz →
        k ⟨some ⟨h.size, 0, none⟩, s.len + n.toNat, cap⟩ (h.push (.cells (old ++ List.flatten (List.replicate n.toNat z) ++ rest).toArray T (0, 0))))

section
variable {P : Program} {T : TTab} {n : Nat} {L : Frm} {h : Hp} {o : Oper} {B : Base}
theorem Eff.appendZ {t e u sz b : Nat} {tys : Array TypeId} {x y : Operand} {args : Array Operand} {z : List Value} {s : Sl} {m : Int} {kd : IntKind} {k : Sl → Heap → Prop} (hT : TTab.Ok P T) (hop : o.op = .call ⟨.builtin .append, args, tys⟩) (hargs : args.toList = [x, y]) (htys : tys.toList = [t, u])
    (ht : T.desc t = some (.slice e)) (hu : T.desc u = some (.int kd)) (hs : T.size e = some sz) (hb : T.bytes e = some b) (hz : T.zero e = some z) (hzl : z.length = sz) (hsz0 : 0 < sz)
    (hx : L.ev x = some (.slice s.a s.len s.cap)) (hy : L.ev y = some (.int .i64 m)) (hb1 : 1 ≤ b ∧ b ≤ 1024) (H : Lift.appendZ sz b z s m h.m k) :
    Eff P n B L h o (fun v h' => ∃ r m, v = Sl.toV r ∧ h' = ⟨m, h.pv⟩ ∧ k r m) := by
  intro ac w ha hw next Q hn
  have hsz := hw.rel.size
  have e1 := congrArg List.toArray hargs
  have e2 := congrArg List.toArray htys
  simp only [Array.toArray_toList] at e1 e2
  subst e1 e2
  obtain ⟨⟨hm0, hmm, hlen⟩, hone, hfit, hgrow⟩ := H
  obtain ⟨i, hi, hib⟩ := TTab.bytes_run hT hb w
  have hx' : ac.eval x = Sl.toV s := ha.eval hx
  have hy' : ac.eval y = .int .i64 m := ha.eval hy
  obtain ⟨N, rfl⟩ := Int.eq_ofNat_of_zero_le (Int.le_of_lt hm0)
  simp only [Int.ofNat_eq_natCast, Int.toNat_natCast] at *
  have hneed : s.len + N ≤ 2 ^ 46 := by
    have : (s.len + N) * 1 ≤ (s.len + N) * b := Nat.mul_le_mul_left _ hb1.1
    omega
  have hNb : N * b ≤ 2 ^ 46 := Nat.le_trans (Nat.mul_le_mul_right _ (by omega)) hlen
  have hw64 : IntKind.wrap .i64 (N : Int) = (N : Int) := by
    simp only [IntKind.wrap]
    simp [IntKind.bits, IntKind.signed]
    omega
  have hneg : ¬ ((N : Int) < 0) := by omega
  have hbig0 : ¬ ((N : Int) * (b : Int) > 281474976710656) := by
    have : ((N * b : Nat) : Int) ≤ 2 ^ 46 := by exact_mod_cast hNb
    have e : ((N * b : Nat) : Int) = (N : Int) * (b : Int) := by simp
    rw [e] at this
    omega
  obtain ⟨vz, hvz, hvzc⟩ := TTab.zero_run hT hz w
  have hvz' : vz.cells = z.toArray := by rw [← hvzc]
  have hzN := zeroCells_eq z N
  have hN0 : N ≠ 0 := by omega
  have hNs : N * sz ≠ 0 := Nat.ne_of_gt (Nat.mul_pos (by omega) hsz0)
  by_cases hf : s.len + N ≤ s.cap
  · have hk := hfit hf
    cases hsa : s.a with
    | none =>
      rw [hsa] at hk
      have : (execOp ac.eval o).run P w = .ok (.value (Sl.toV ⟨s.a, s.len + N, s.cap⟩)) w := by
        simp [execOp, hop, hx', hy', resolve, Go.invoke, builtin, Builtin.append_, Result.andThen, TTab.desc_run hT ht, TTab.desc_run hT hu, TTab.size_run hT hs, Sl.toV, asInt, asIntOf, hw64, hneg, hi, hib, hbig0, hf, hsa, hvz, hvz', hzN, hN0, Nat.ne_of_gt hsz0]
        rw [if_neg hNs]
      unfold Oper.wp
      rw [this]
      exact hn _ _ h hw ⟨_, h.m, rfl, rfl, by rw [hsa]; exact hk⟩
    | some a =>
      rw [hsa] at hk
      obtain ⟨hcan, hk⟩ := hk
      obtain ⟨w', hr, hh⟩ := run_storeCells (P := P) _ 0 h w hw hcan hone
      have : (execOp ac.eval o).run P w = .ok (.value (Sl.toV ⟨s.a, s.len + N, s.cap⟩)) w' := by
        simp [execOp, hop, hx', hy', resolve, Go.invoke, builtin, Builtin.append_, Result.andThen, TTab.desc_run hT ht, TTab.desc_run hT hu, TTab.size_run hT hs, Sl.toV, asInt, asIntOf, hw64, hneg, hi, hib, hbig0, hf, hsa, hvz, hvz', hzN, hN0, Nat.ne_of_gt hsz0, hr]
        rw [if_neg hNs]
        simp [hr]
      unfold Oper.wp
      rw [this]
      exact hn _ _ _ hh ⟨_, _, rfl, rfl, by rw [hsa]; exact hk⟩
  · have hk := hgrow (by omega)
    obtain ⟨old, hold, hk⟩ := hk
    have hcaps := nextcap_le (s.len + N) s.cap (by omega)
    have hbig : ¬ Builtin.nextslicecap (s.len + N) s.cap * b > 2 ^ 48 := by
      have h1 : Builtin.nextslicecap (s.len + N) s.cap * b ≤ (2 * (s.len + N) + 768) * b := Nat.mul_le_mul_right _ hcaps
      have h2 : (2 * (s.len + N) + 768) * b = 2 * ((s.len + N) * b) + 768 * b := by rw [Nat.add_mul, Nat.mul_assoc]
      omega
    obtain ⟨c, hceq⟩ : ∃ c, (Question.appendCap (s.len + N) s.cap e).cut (w.tape w.drawn (Question.appendCap (s.len + N) s.cap e)) = c := ⟨_, rfl⟩
    have hc : s.len + N ≤ c := by rw [← hceq]; simp [Question.cut]
    have hforced : (Question.appendCap (s.len + N) s.cap e).forced = false := rfl
    have hold' := run_firstCells (P := P) (w := w.drew) (s := s) (size := sz) (m := s.len) (hw.rel.cellsO hold)
    obtain ⟨i', hi', hib'⟩ := TTab.bytes_run hT hb w.drew
    obtain ⟨v', hv', hvc'⟩ := TTab.zero_run hT hz w.drew
    have hvc'' : v'.cells = z.toArray := by rw [← hvc']
    have hz0 := zeroCells_eq z (c - (s.len + N))
    have hb0 : b ≠ 0 := by omega
    have hmax' : ¬ (9223372036854775807 < (s.len : Int) + (N : Int)) := by omega
    have : (execOp ac.eval o).run P w = .ok (.value (Sl.toV ⟨some ⟨h.m.size, 0, none⟩, s.len + N, c⟩))
        (w.drew.alloc (.cells (old ++ List.flatten (List.replicate N z) ++ List.flatten (List.replicate (c - (s.len + N)) z)).toArray e (0, 0))) := by
      simp [Sl.toV] at hold'
      have hbig' : ¬ 281474976710656 < Builtin.nextslicecap (s.len + N) s.cap * b := hbig
      simp [execOp, hop, hx', hy', resolve, Go.invoke, builtin, Builtin.append_, Result.andThen, TTab.desc_run hT ht, TTab.desc_run hT hu, TTab.size_run hT hs, Sl.toV, asInt, asIntOf, hw64, hneg, hbig0, hN0, Nat.ne_of_gt hsz0, hf, hi, hib, hbig', hb0, hforced, hceq, hi', hold', hv', hvc'', hz0, hzN, newRow, newObj, Sem.run, hsz, hmax']
      rw [if_neg hNs]
      simp [hv', hvc'', hz0, hsz]
    unfold Oper.wp
    rw [this]
    exact hn _ _ _ (hw.push ⟨rfl, rfl, rfl⟩ rfl) ⟨_, _, rfl, rfl, hk c e _ hc (by rw [flat_len, hzl])⟩
variable {m0 : Heap} {pv0 : List (Nat × List Value)}
theorem EffX.appendZ {t e u sz b : Nat} {tys : Array TypeId} {x y : Operand} {args : Array Operand} {z : List Value} {s : Sl} {m : Int} {kd : IntKind} {k : Sl → Heap → Prop} (hT : TTab.Ok P T) (hop : o.op = .call ⟨.builtin .append, args, tys⟩) (hargs : args.toList = [x, y]) (htys : tys.toList = [t, u])
    (ht : T.desc t = some (.slice e)) (hu : T.desc u = some (.int kd)) (hs : T.size e = some sz) (hb : T.bytes e = some b) (hz : T.zero e = some z) (hzl : z.length = sz) (hsz0 : 0 < sz)
    (hx : L.ev x = some (.slice s.a s.len s.cap)) (hy : L.ev y = some (.int .i64 m)) (hb1 : 1 ≤ b ∧ b ≤ 1024) (H : Lift.appendZ sz b z s m m0 k) :
    Eff P n B L ⟨m0, pv0⟩ o (fun v h' => ∃ r m, v = Sl.toV r ∧ h' = ⟨m, pv0⟩ ∧ k r m) :=
  Eff.appendZ (h := ⟨m0, pv0⟩) hT hop hargs htys ht hu hs hb hz hzl hsz0 hx hy hb1 H

/-! ### Scopes, labels -/
variable {Q : Exit → Act → World → Prop} {ops : Array Oper}
theorem AtC.scope {c : Code} (H : AtC P n B (Exit.noGoto Q) L h c) : AtC P n B Q L h (.scope c) :=
  fun a w ha hw => wp_scope_straight (H a w ha hw)
theorem AtC.label {l : Nat} (H : AtE n B (Q .normal) L h) : AtC P n B Q L h (.label l) := by
  intro a w ha hw b k cs
  exact ⟨.normal, a, w, H a w ha hw, .one step_label⟩
theorem AtE.ng_n (H : AtE n B (Q .normal) L h) : AtE n B (Exit.noGoto Q .normal) L h := H
theorem AtE.ng_x {i : Nat} (H : AtE n B (Q (.exit i)) L h) : AtE n B (Exit.noGoto Q (.exit i)) L h := H
theorem AtE.ng_r (H : AtE n B (Q .ret) L h) : AtE n B (Exit.noGoto Q .ret) L h := H
end
end Go.Lift

namespace Go.Lift
open Go
end Go.Lift

/-
  Laws that the proof of this claim's statement leans on, each proved under the conditions that it states.
-/
import Derived.Test.YtkjcocjkcjmafaaFwC
import Derived.Maps.RangeRun
import Derived.Laws.BitsLemmas
import Derived.Sort.Row
import Derived.Sort.Grow
import Derived.Sort.Statements
set_option linter.unusedVariables false
set_option linter.unusedSimpArgs false
namespace Go.Lift
open Go
def Base.but (B : Base) (l : Nat) : Base := ⟨B.w, B.h.setIfInBounds l (.cells #[] 0 (0, 0))⟩
section
variable {B : Base} {m : Heap} {w : World} {l : Nat} {o : Obj}
theorem but_ne {b : Nat} (hb : (B.but l).h[b]? = some junk) : b ≠ l ∧ B.h[b]? = some junk := by
  unfold Base.but at hb
  rw [Array.getElem?_setIfInBounds] at hb
  by_cases e : l = b
  · rw [if_pos e] at hb
    split at hb
    · exact absurd (Option.some.inj hb) cells_ne_junk
    · cases hb
  · rw [if_neg e] at hb
    exact ⟨Ne.symm e, hb⟩
theorem InW.but (hi : InW B ⟨m, []⟩ w) (l : Nat) : InW (B.but l) ⟨m, []⟩ w :=
  ⟨hi.os, hi.out, hi.tape, hi.rel, fun b hb => hi.keep b (but_ne hb).2, fun b cs hb => by simp at hb, by have := hi.grow; unfold Base.but; simpa using this⟩
theorem InW.unbut (hi : InW (B.but l) ⟨m, []⟩ w) (hj : m[l]? = some junk) (he : w.heap[l]? = B.w.heap[l]?) : InW B ⟨m, []⟩ w := by
  refine ⟨hi.os, hi.out, hi.tape, hi.rel, fun b hb => ?_, fun b cs hb => by simp at hb, by have := hi.grow; unfold Base.but at this; simpa using this⟩
  by_cases e : b = l
  · subst e; exact ⟨hj, he⟩
  · refine hi.keep b ?_
    unfold Base.but
    rw [Array.getElem?_setIfInBounds_ne (Ne.symm e)]
    exact hb
theorem InW.old (hi : InW (B.but l) ⟨m, []⟩ w) (h : B.h.size ≤ l) : InW B ⟨m, []⟩ w := by
  refine ⟨hi.os, hi.out, hi.tape, hi.rel, fun b hb => ?_, fun b cs hb => by simp at hb, by have := hi.grow; unfold Base.but at this; simpa using this⟩
  have hlt := (Array.getElem?_eq_some_iff.1 hb).1
  refine hi.keep b ?_
  unfold Base.but
  rw [Array.getElem?_setIfInBounds_ne (by omega)]
  exact hb
theorem Rel.putJ {H : World} (hr : Rel ⟨m, []⟩ H.heap) (hj : m[l]? = some junk) : Rel ⟨m, []⟩ (H.putObj l o).heap := by
  refine ⟨by simpa using hr.size, fun b => ?_, fun b cs hb => by simp at hb, by simp⟩
  by_cases e : b = l
  · subst e; exact .inl hj
  · rw [World.putObj_heap_other e]; exact hr.same b
theorem InW.putB (hi : InW (B.but l) ⟨m, []⟩ w) (hj : m[l]? = some junk) : InW (B.but l) ⟨m, []⟩ (w.putObj l o) :=
  ⟨hi.os, hi.out, hi.tape, hi.rel.putJ hj, fun b hb => by
    obtain ⟨h1, h2⟩ := hi.keep b hb
    exact ⟨h1, by rw [World.putObj_heap_other (but_ne hb).1]; exact h2⟩, fun b cs hb => by simp at hb, hi.grow⟩
theorem InW.pushJ (hi : InW B ⟨m, []⟩ w) (o : Obj) : InW B ⟨m.push junk, []⟩ (w.alloc o) := by
  have hsz := hi.rel.size
  have hh : (w.alloc o).heap = w.heap.push o := rfl
  refine ⟨hi.os, hi.out, hi.tape, ⟨by rw [hh]; simpa using hsz, fun b => ?_, fun b cs hb => by simp at hb, by simp⟩, fun b hb => ?_, fun b cs hb => by simp at hb, by have hg : B.h.size ≤ m.size := hi.grow; simp; omega⟩
  · show (m.push junk)[b]? = _ ∨ _ = (m.push junk)[b]?
    rw [hh, Array.getElem?_push, Array.getElem?_push]
    by_cases e : b = m.size
    · simp [e]
    · rw [if_neg e, if_neg (by rw [hsz]; exact e)]; exact hi.rel.same b
  · obtain ⟨h1, h2⟩ := hi.keep b hb
    have hlt : b < m.size := (Array.getElem?_eq_some_iff.1 h1).1
    have hsz : w.heap.size = m.size := hsz
    exact ⟨by show (m.push junk)[b]? = _; rw [Array.getElem?_push, if_neg (by omega)]; exact h1, by rw [hh, Array.getElem?_push, if_neg (by omega)]; exact h2⟩
end
def Round (P : Program) (l : Nat) (vs : List Value) (W : World) (R : Ending → World → Prop) : Prop :=
  ∃ r : Loop, W.heap[l]? = some (.loop r) ∧ vs.length = r.params.size ∧ RoundIn (FW none) 0 P l r.fn ((r.params.zip vs.toArray).foldl (fun tmps (t, a) => tmps.setIfInBounds t a) r.tmps) r.assign r.body W R
section
variable {P : Program} {n : Ns} {L : Frm} {h : Hp} {o : Oper} {B : Base} {ops : Array Oper} {Q : Exit → Act → World → Prop}
theorem AtL.yield {x : Operand} {args : Array Operand} {tys : Array TypeId} {l : Nat} {vs : List Value} {rest : List Oper} (hn : n.r = none) (hd : okDst o n.n = true) (hop : o.op = .call ⟨.value x, args, tys⟩)
    (hx : L.ev x = some (.func (.yield l) #[] #[])) (hvs : evArgs L args.toList = some vs)
    (H : ∀ w, InW B h w → Round P l vs w fun e w' => ∃ v, e = .returned v ∧ ∃ B' h', InW B' h' w' ∧ AtL P n B' ops Q (L.put o.dst v) h' rest) : AtL P n B ops Q L h (o :: rest) := by
  intro a w ha hw
  obtain ⟨hg, hd⟩ := okDst_spec hd
  refine wpListIn_plain hg fun K hK => ?_
  have e1 := evArgs_spec ha _ _ hvs
  have e2 : args.map a.eval = vs.toArray := by rw [← e1, ← Array.toList_map]
  obtain ⟨r, h1, h2, h3⟩ := H w hw
  have hnd : ∀ c, o.op ≠ .defer c := by intro c hc; rw [hop] at hc; cases hc
  have hrun : (execOp a.eval o).run P w = .ok (.round l r.fn ((r.params.zip vs.toArray).foldl (fun tmps (t, a) => tmps.setIfInBounds t a) r.tmps) r.assign r.body) w := by
    have := run_yield (P := P) (args := vs.toArray) h1 (by simpa using h2)
    simp only [execOp, hop, resolve, ha.eval hx, Deferred.ofValue, Sem.run_bind, Sem.run_pure, Result.andThen, invoke, e2]
    simpa using this
  refine ⟨fun _ _ => trivial, ?_⟩
  rw [Oper.semAt_eq _ _ _ hnd, hrun, hn]
  refine ⟨fun h => (by cases h), h3.mono ?_⟩
  rintro e w' ⟨v, rfl, B', h', hi, hL⟩
  refine hK _ _ ?_
  exact hL _ _ (ha.put hd) hi
end
theorem AtC.at' {P : Program} {n : Ns} {B : Base} {Q : Exit → Act → World → Prop} {L : Frm} {h : Hp} {c : Code} {a : Act} {w : World} (H : AtC P n B Q L h c) (ha : Agree n L a) (hw : InW B h w) : c.wpIn (FW n.r) 0 P Q a w := H a w ha hw
theorem AtE.mk {n : Ns} {B : Base} {K : Act → World → Prop} {L : Frm} {h : Hp} (H : ∀ a w, Agree n L a → InW B h w → K a w) : AtE n B K L h := H
abbrev mark (D : Nat) : Deferred := { target := .collected D, args := #[] }
structure Lnk (B B4 : Base) (D : Nat) : Prop where
  inw : InW B ⟨B4.h, []⟩ B4.w
  jnk : B4.h[D]? = some junk
  blk : B4.w.heap[D]? = some (.deferred (some []))
  ge : B.h.size ≤ D
def AtM (B : Base) (n : Nat) (K : Act → World → Prop) (L : Frm) (m : Heap) : Prop := ∀ B4 D, Lnk B B4 D → AtE ⟨n, [mark D], none⟩ B4 K L ⟨m, []⟩
def BodyC (P : Program) (B : Base) (n : Nat) (Q : Exit → Act → World → Prop) (L : Frm) (l : Nat) (body : Code) (L' : Frm) (m' : Heap) (K : Heap → Prop) : Prop :=
  ∀ (B3 : Base) (Q3 : Exit → Act → World → Prop), (∀ m, K m → AtE ⟨n, [], some l⟩ B3 (Q3 .normal) [] ⟨m, []⟩) → (∀ m, AtM B n (Q .ret) L m → AtE ⟨n, [], some l⟩ B3 (Q3 .ret) [] ⟨m, []⟩) →
    (∀ id m, AtM B n (Q (.exit id)) L m → AtE ⟨n, [], some l⟩ B3 (Q3 (.exit id)) [] ⟨m, []⟩) → AtC P ⟨n, [], some l⟩ B3 Q3 L' ⟨m', []⟩ body
def RMid (P : Program) (B B2 : Base) (n : Nat) (Q : Exit → Act → World → Prop) (L : Frm) (l : Nat) (body : Code) (K : Heap → Prop) : Exit → Act → World → Prop
  | .normal, a, w => ∃ L' m', Agree ⟨n, [], some l⟩ L' a ∧ InW B2 ⟨m', []⟩ w ∧ BodyC P B n Q L l body L' m' K
  | _, _, _ => False
theorem mid {P : Program} {B B2 : Base} {n : Nat} {Q : Exit → Act → World → Prop} {L : Frm} {l : Nat} {body : Code} {L' : Frm} {m' : Heap} {K : Heap → Prop} (H : BodyC P B n Q L l body L' m' K) :
    AtE ⟨n, [], some l⟩ B2 (RMid P B B2 n Q L l body K .normal) L' ⟨m', []⟩ := fun _ _ ha hw => ⟨L', m', ha, hw, H⟩
def backL {α : Type} (c0 : Addr) (sz : Nat) (ld : Addr → Heap → (α → Prop) → Prop) (Y : Int → α → Heap → (Heap → Prop) → Prop) (R : Heap → Prop) (h : Heap) : Prop :=
  Lift.load Sl.toV c0 h fun s => loop (fun (i : Int) h (K : Int → Heap → Prop) => iteB (decide (i ≥ 0)) (Lift.load Sl.toV c0 h fun s => idxS s i sz fun a => ld a h fun x => Y i x h (K (IntKind.wrap .i64 (i - 1)))) (R h)) (IntKind.wrap .i64 (((s.len : Nat) : Int) - 1)) h
def BackOK {α : Type} (P : Program) (g : Nat) (sz : Nat) (ld : Addr → Heap → (α → Prop) → Prop) (enc : α → Value) : Prop :=
  ∀ {B : Base} {m : Heap} {w : World} {l : Nat} {c0 : Addr} {Y : Int → α → Heap → (Heap → Prop) → Prop} {R : Heap → Prop} {Rx : Heap → World → Prop}, InW B ⟨m, []⟩ w → backL c0 sz ld Y R m → (∀ m' W W', Rx m' W → InW ⟨W, m'⟩ ⟨m', []⟩ W' → Rx m' W') →
    (∀ i x m K W, InW B ⟨m, []⟩ W → Y i x m K → Round P l [.int .i64 i, enc x] W fun e W' => (e = .returned (.bool true) ∧ ∃ m', InW B ⟨m', []⟩ W' ∧ K m') ∨ (e = .returned (.bool false) ∧ ∃ m', Rel ⟨m', []⟩ W'.heap ∧ Rx m' W')) →
    CallsIn (FW none) 0 P g #[.func (.yield l) #[] #[], .pointer (some c0)] w fun e W' => (∃ v, e = .returned v) ∧ ((∃ m', InW B ⟨m', []⟩ W' ∧ R m') ∨ ∃ m', Rx m' W')
def IterOK {α : Type} (P : Program) (g : Nat) (cb : Value) (vs : α → List Value) (sh : (α → Heap → (Heap → Prop) → Prop) → (Heap → Prop) → Heap → Prop) : Prop :=
  ∀ {W1 : World} {m1 : Heap} {l : Nat} {Y : α → Heap → (Heap → Prop) → Prop} {R : Heap → Prop} {Rx : Heap → World → Prop}, Rel ⟨m1, []⟩ W1.heap → sh Y R m1 → (∀ m' W W', Rx m' W → InW ⟨W, m'⟩ ⟨m', []⟩ W' → Rx m' W') →
    (∀ x m K W, InW ⟨W1, m1⟩ ⟨m, []⟩ W → Y x m K → Round P l (vs x) W fun e W' => (e = .returned (.bool true) ∧ ∃ m', InW ⟨W, m⟩ ⟨m', []⟩ W' ∧ K m') ∨ (e = .returned (.bool false) ∧ ∃ m', Rel ⟨m', []⟩ W'.heap ∧ Rx m' W')) →
    CallsIn (FW none) 0 P g #[.func (.yield l) #[] #[], cb] W1 fun e W' => (∃ v, e = .returned v) ∧ ((∃ m', InW ⟨W1, m1⟩ ⟨m', []⟩ W' ∧ R m') ∨ ∃ m', Rx m' W')
theorem BackOK.iter {α : Type} {P : Program} {g sz : Nat} {ld : Addr → Heap → (α → Prop) → Prop} {enc : α → Value} (hB : BackOK P g sz ld enc) (c0 : Addr) :
    IterOK P g (.pointer (some c0)) (fun x : Int × α => [.int .i64 x.1, enc x.2]) fun Y R h => backL c0 sz ld (fun i x => Y (i, x)) R h := by
  intro W1 m1 l Y R Rx hr H hst hY
  refine hB (InW.start hr) H hst fun i x m K W hi hy => ?_
  obtain ⟨r, e1, e2, e3⟩ := hY (i, x) m K W hi hy
  refine ⟨r, e1, e2, e3.mono ?_⟩
  rintro e W' (⟨h1, m', h2, h3⟩ | h)
  · exact .inl ⟨h1, m', hi.call h2, h3⟩
  · exact .inr h
theorem AtC.rangeG {α : Type} {P : Program} {g : Nat} {cb : Value} {vs : α → List Value} {sh : (α → Heap → (Heap → Prop) → Prop) → (Heap → Prop) → Heap → Prop} (hB : IterOK P g cb vs sh) {n : Nat} {B : Base} {Q : Exit → Act → World → Prop} {f : Operand} {ps : Array Tmp} {Lx : α → Frm} {assign body : Code} {L : Frm} {m : Heap}
    {Y : α → Heap → (Heap → Prop) → Prop} {R : Heap → Prop} (hf : L.ev f = some (.func (.func g) #[] #[cb])) (hcall : ∀ vs w, (callFunc g vs).run P w = .ok (.enter g vs) w)
    (H : Lift.mem m fun h0 => sh Y R h0) (hps : ∀ x, (vs x).length = ps.size) (hLx : ∀ l x (a : Act), Agree ⟨n, [], some l⟩ L a → Agree ⟨n, [], some l⟩ (Lx x) { a with tmps := (ps.zip (vs x).toArray).foldl (fun tmps (t, v) => tmps.setIfInBounds t v) a.tmps })
    (hY : ∀ (l : Nat) (x : α) (m : Heap) (K : Heap → Prop), Y x m K → ∀ B2, AtC P ⟨n, [], some l⟩ B2 (RMid P B B2 n Q L l body K) (Lx x) ⟨m, []⟩ assign)
    (hR : ∀ m, R m → AtM B n (Q .normal) L m) : AtC P ⟨n, [], none⟩ B Q L ⟨m, []⟩ (.rangeFunc f ps assign body) := by
  intro a w ha hw
  refine wpIn_rangeFunc ?_
  intro fn hfn
  have hsz : w.heap.size = m.size := hw.rel.size
  obtain ⟨rec, hrec⟩ : ∃ rec : LoopState → Option Code → Loop, rec = fun st pe => { state := st, pending := pe, fn, tmps := a.tmps, params := ps, assign, body, defers := w.heap.size } := ⟨_, rfl⟩
  obtain ⟨W1, hW1⟩ : ∃ W1, (w.alloc (.deferred (some []))).alloc (.loop (rec .ready none)) = W1 := ⟨_, rfl⟩
  obtain ⟨m1, hm1⟩ : ∃ m1 : Heap, (m.push junk).push junk = m1 := ⟨_, rfl⟩
  have i1 : InW B ⟨m1, []⟩ W1 := by rw [← hW1, ← hm1]; exact (hw.pushJ _).pushJ _
  have gB : B.h.size ≤ m.size := hw.grow
  have jl : m1[w.heap.size + 1]? = some junk := by
    rw [← hm1, hsz]
    have : (m.push junk).size = m.size + 1 := by simp
    rw [← this, Array.getElem?_push_size]
  have jD : m1[w.heap.size]? = some junk := by
    rw [← hm1, hsz, Array.getElem?_push, if_neg (by simp), Array.getElem?_push_size]
  have hl : W1.heap[w.heap.size + 1]? = some (.loop (rec .ready none)) := by
    rw [← hW1]
    show (((w.heap.push _).push _ : Heap))[w.heap.size + 1]? = _
    have : (w.heap.push (Obj.deferred (some []))).size = w.heap.size + 1 := by simp
    rw [← this, Array.getElem?_push_size]
  have hD : W1.heap[w.heap.size]? = some (.deferred (some [])) := by
    rw [← hW1]
    show (((w.heap.push _).push _ : Heap))[w.heap.size]? = _
    rw [Array.getElem?_push, if_neg (by simp), Array.getElem?_push_size]
  have h1 : sh Y R m1 := H m1 (by rw [← hm1]; exact (MExt.push _ _).trans (MExt.push _ _))
  have ig : InW ⟨W1, m1⟩ ⟨m1, []⟩ W1 := InW.start i1.rel
  generalize hll : w.heap.size + 1 = l at *
  generalize hDD : w.heap.size = D at *
  have hlD : l ≠ D := by omega
  have hBl : B.h.size ≤ l := by omega
  have hBD : B.h.size ≤ D := by omega
  -- what is so of B where the closure's world is so
  have up : ∀ {m' : Heap} {W : World}, InW (Base.but ⟨W1, m1⟩ l) ⟨m', []⟩ W → InW B ⟨m', []⟩ W ∧ m'[D]? = some junk ∧ W.heap[D]? = some (.deferred (some [])) := by
    intro m' W hi
    have kD := hi.keep D (by unfold Base.but; rw [Array.getElem?_setIfInBounds_ne hlD]; exact jD)
    refine ⟨?_, kD.1, kD.2.trans hD⟩
    refine ⟨hi.os.trans i1.os, hi.out.trans i1.out, ⟨hi.tape.1.trans i1.tape.1, Nat.le_trans i1.tape.2 hi.tape.2⟩, hi.rel, fun b hb => ?_, fun b cs hb => by simp at hb, Nat.le_trans i1.grow (by have := hi.grow; unfold Base.but at this; simpa using this)⟩
    have hlt := (Array.getElem?_eq_some_iff.1 hb).1
    obtain ⟨e1, e2⟩ := i1.keep b hb
    obtain ⟨e3, e4⟩ := hi.keep b (by unfold Base.but; rw [Array.getElem?_setIfInBounds_ne (by omega)]; exact e1)
    exact ⟨e3, e4.trans e2⟩
  -- the world behind
  have after : ∀ {e : Exit} {m' : Heap} {W : World} {o : Obj}, InW (Base.but ⟨W1, m1⟩ l) ⟨m', []⟩ W → m'[l]? = some junk → AtM B n (Q e) L m' → Q e { a with defers := [mark D] ++ a.defers } (W.putObj l o) := by
    intro e m' W o hi hj hA
    have hi' := hi.putB (o := o) hj
    obtain ⟨u1, u2, u3⟩ := up hi'
    refine hA ⟨W.putObj l o, m'⟩ D ⟨u1, u2, u3, hBD⟩ _ _ ⟨ha.1, ?_, ha.2.2⟩ (InW.start hi'.rel)
    show [mark D] ++ a.defers = [mark D]
    rw [ha.2.1]; rfl
  refine ⟨l, [mark D], W1, { target := .fn (.func g) #[cb], args := #[.func (.yield l) #[] #[]] }, W1, g, #[.func (.yield l) #[] #[], cb], W1, ?_, ?_, fun _ _ => trivial, ?_, fun h => (by cases h), ?_⟩
  · rw [← hW1, hrec, ← hll, ← hDD]; exact run_enterLoop_outer _ _ _ _ _
  · simp only [resolve, ha.eval hf]
    simp [go_sem]
  · simp [invoke, go_sem, hcall]
  refine (hB (Rx := fun m' W' => ∃ (e : Exit) (c : Code), ((c = .ret ∧ e = .ret) ∨ ∃ id, c = .exit id ∧ e = .exit id) ∧ W'.heap[l]? = some (.loop (rec .done (some c))) ∧ InW (Base.but ⟨W1, m1⟩ l) ⟨m', []⟩ W' ∧ m'[l]? = some junk ∧ AtM B n (Q e) L m') i1.rel h1 ?_ ?_).mono ?_
  · rintro m' W W' ⟨e, c, hc, hr, hi, hj, hA⟩ h4
    have k4 := h4.keep l hj
    exact ⟨e, c, hc, k4.2.trans hr, hi.call h4, hj, hA⟩
  · -- one round
    intro x m2 K W hi hy
    have rec0 := hi.keep l jl
    have hrW : W.heap[l]? = some (.loop (rec .ready none)) := rec0.2.trans hl
    refine ⟨rec .ready none, hrW, by rw [hrec]; exact hps x, ?_⟩
    refine roundIn_of_wpIn trivial ?_
    have hag : Agree ⟨n, [], some l⟩ (Lx x) { tmps := (ps.zip (vs x).toArray).foldl (fun tmps (t, v) => tmps.setIfInBounds t v) a.tmps, defers := [] } := hLx l x { tmps := a.tmps, defers := [] } ⟨ha.1, rfl, ha.2.2⟩
    have htm : ((rec .ready none).params.zip (vs x).toArray).foldl (fun tmps (t, a) => tmps.setIfInBounds t a) (rec .ready none).tmps = (ps.zip (vs x).toArray).foldl (fun tmps (t, v) => tmps.setIfInBounds t v) a.tmps := by
      rw [hrec]
    rw [htm]
    have hA := hY l x m2 K hy ⟨W, m2⟩ _ _ hag (InW.start hi.rel)
    have e1 : (rec .ready none).assign = assign := by rw [hrec]
    have e2 : (rec .ready none).body = body := by rw [hrec]
    rw [e1, e2]
    refine wpIn_mono (F := FW (some l)) hA ?_
    rintro e a1 w1 hM
    cases e with
    | normal =>
      obtain ⟨L', m3, ag3, i3, hb⟩ := hM
      have k3 := i3.keep l rec0.1
      have r1 : w1.heap[l]? = some (.loop (rec .ready none)) := k3.2.trans hrW
      have rb := run_beginRound (P := P) r1 (by rw [hrec])
      refine ⟨_, rb, ?_⟩
      have c1 : InW (Base.but ⟨W1, m1⟩ l) ⟨m3, []⟩ w1 := (hi.call i3).but l
      have c2 : InW (Base.but ⟨W1, m1⟩ l) ⟨m3, []⟩ (w1.putObj l (.loop { rec .ready none with state := .busy })) := c1.putB k3.1
      have d2 : InW (Base.but ⟨W, m2⟩ l) ⟨m3, []⟩ (w1.putObj l (.loop { rec .ready none with state := .busy })) := (i3.but l).putB k3.1
      have hlt : l < w1.heap.size := (Array.getElem?_eq_some_iff.1 r1).1
      have r2 : (w1.putObj l (.loop { rec .ready none with state := .busy })).heap[l]? = some (.loop { rec .ready none with state := .busy }) := World.putObj_heap_same hlt
      generalize (w1.putObj l (.loop { rec .ready none with state := .busy })) = w2 at *
      have fin : ∀ {m4 : Heap} {w3 : World} (jump : Option Code), InW ⟨w2, m3⟩ ⟨m4, []⟩ w3 → (Instr.endRound l jump).run P w3 = .ok (.bool jump.isNone) (w3.putObj l (.loop (rec (if jump.isNone then .ready else .done) jump))) ∧
          (w3.putObj l (.loop (rec (if jump.isNone then .ready else .done) jump))).heap[l]? = some (.loop (rec (if jump.isNone then .ready else .done) jump)) ∧
          InW (Base.but ⟨W1, m1⟩ l) ⟨m4, []⟩ (w3.putObj l (.loop (rec (if jump.isNone then .ready else .done) jump))) ∧ m4[l]? = some junk ∧ InW (Base.but ⟨W, m2⟩ l) ⟨m4, []⟩ (w3.putObj l (.loop (rec (if jump.isNone then .ready else .done) jump))) := by
        intro m4 w3 jump h4
        have k4 := h4.keep l k3.1
        have r3 := k4.2.trans r2
        have := run_endRound (P := P) jump r3
        rw [hrec] at this ⊢
        refine ⟨this, World.putObj_heap_same (Array.getElem?_eq_some_iff.1 r3).1, (c2.call h4).putB k4.1, k4.1, (d2.call h4).putB k4.1⟩
      refine hb ⟨w2, m3⟩ _ (fun m4 hk a3 w3 _ h4 => ?_) (fun m4 hk a3 w3 _ h4 => ?_) (fun id m4 hk a3 w3 _ h4 => ?_) a1 w2 ag3 (InW.start c2.rel)
      · obtain ⟨f1, f2, f3, f4, f5⟩ := fin none h4
        exact ⟨_, _, f1, .inl ⟨rfl, m4, f5.unbut f4 (by rw [f2]; exact hrW.symm), hk⟩⟩
      · obtain ⟨f1, f2, f3, f4, _⟩ := fin (some .ret) h4
        exact ⟨_, _, f1, .inr ⟨rfl, m4, f3.rel, .ret, .ret, .inl ⟨rfl, rfl⟩, f2, f3, f4, hk⟩⟩
      · obtain ⟨f1, f2, f3, f4, _⟩ := fin (some (.exit id)) h4
        exact ⟨_, _, f1, .inr ⟨rfl, m4, f3.rel, .exit id, .exit id, .inr ⟨id, rfl, rfl⟩, f2, f3, f4, hk⟩⟩
    | _ => exact hM.elim
  · -- behind the iterator
    rintro e W' ⟨⟨v, rfl⟩, (⟨m', hi, hr⟩ | ⟨m', e, c, hc, hr, hi, hj, hA⟩)⟩
    · have k := hi.keep l jl
      have r1 := k.2.trans hl
      refine ⟨none, _, by have := run_endLoop (P := P) r1 (by rw [hrec]; simp); rw [hrec] at this; exact this, ?_⟩
      exact after (hi.but l) k.1 (hR m' hr)
    · refine ⟨some c, _, by have := run_endLoop (P := P) hr (by rw [hrec]; simp); rw [hrec] at this; exact this, ?_⟩
      rcases hc with ⟨rfl, rfl⟩ | ⟨id, rfl, rfl⟩
      · exact wpIn_ret (after hi hj hA)
      · exact wpIn_exit (after hi hj hA)
theorem AtC.range {α : Type} {P : Program} {g sz : Nat} {ld : Addr → Heap → (α → Prop) → Prop} {enc : α → Value} (hB : BackOK P g sz ld enc) {n : Nat} {B : Base} {Q : Exit → Act → World → Prop} {f : Operand} {pk px : Tmp} {assign body : Code} {L : Frm} {m : Heap} {c0 : Addr}
    {Y : Int → α → Heap → (Heap → Prop) → Prop} {R : Heap → Prop} (hf : L.ev f = some (.func (.func g) #[] #[.pointer (some c0)])) (hcall : ∀ vs w, (callFunc g vs).run P w = .ok (.enter g vs) w)
    (H : Lift.mem m fun h0 => backL c0 sz ld Y R h0) (hpk : pk < n) (hpx : px < n)
    (hY : ∀ (l : Nat) (i : Int) (x : α) (m : Heap) (K : Heap → Prop), Y i x m K → ∀ B2, AtC P ⟨n, [], some l⟩ B2 (RMid P B B2 n Q L l body K) ((px, enc x) :: (pk, .int .i64 i) :: L) ⟨m, []⟩ assign)
    (hR : ∀ m, R m → AtM B n (Q .normal) L m) : AtC P ⟨n, [], none⟩ B Q L ⟨m, []⟩ (.rangeFunc f #[pk, px] assign body) :=
  AtC.rangeG (hB.iter c0) (Y := fun x => Y x.1 x.2) (Lx := fun x => (px, enc x.2) :: (pk, .int .i64 x.1) :: L) hf hcall H (fun _ => rfl)
    (fun l x a h0 => by
      rw [← Array.foldl_toList, Array.toList_zip]
      exact (h0.put (d := some pk) (v := .int .i64 x.1) (fun t e => by cases e; exact hpk)).put (d := some px) (v := enc x.2) (fun t e => by cases e; exact hpx))
    (fun l x m K h B2 => hY l x.1 x.2 m K h B2) hR
theorem AtC.range1 {α : Type} {P : Program} {g : Nat} {cb : Value} {enc : α → Value} {sh : (α → Heap → (Heap → Prop) → Prop) → (Heap → Prop) → Heap → Prop} (hB : IterOK P g cb (fun x => [enc x]) sh) {n : Nat} {B : Base} {Q : Exit → Act → World → Prop} {f : Operand} {px : Tmp} {assign body : Code} {L : Frm} {m : Heap}
    {Y : α → Heap → (Heap → Prop) → Prop} {R : Heap → Prop} (hf : L.ev f = some (.func (.func g) #[] #[cb])) (hcall : ∀ vs w, (callFunc g vs).run P w = .ok (.enter g vs) w)
    (H : Lift.mem m fun h0 => sh Y R h0) (hpx : px < n)
    (hY : ∀ (l : Nat) (x : α) (m : Heap) (K : Heap → Prop), Y x m K → ∀ B2, AtC P ⟨n, [], some l⟩ B2 (RMid P B B2 n Q L l body K) ((px, enc x) :: L) ⟨m, []⟩ assign)
    (hR : ∀ m, R m → AtM B n (Q .normal) L m) : AtC P ⟨n, [], none⟩ B Q L ⟨m, []⟩ (.rangeFunc f #[px] assign body) :=
  AtC.rangeG hB (Lx := fun x => (px, enc x) :: L) hf hcall H (fun _ => rfl)
    (fun l x a h0 => by
      rw [← Array.foldl_toList, Array.toList_zip]
      exact h0.put (d := some px) (v := enc x) (fun t e => by cases e; exact hpx)) hY hR
theorem results_run {P : Program} {n : Ns} {L : Frm} {h : Hp} {fn : Func} {rs : List ResultVar} {vs : List Value} {a : Act} {w : World} (hr : fn.results = rs.toArray) (hres : ResAll P n L h rs vs) (ha : Agree n L a) (hw : Rel h w.heap) :
    (results fn a.tmps).run P w = .ok (oneOf vs) w := by
  have := run_arrMapM _ rs.toArray vs (by simpa using ResAll.run ha hw rs vs hres)
  have e : results fn a.tmps = (do let vs ← fn.results.mapM (resRun a); pure (if h : vs.size = 1 then vs[0] else .tuple vs)) := by
    unfold results
    congr 1
  rw [e, hr]
  simp only [Sem.run_bind, this, Result.andThen_ok]
  cases vs with
  | nil => simp [oneOf]
  | cons v vs => cases vs <;> simp [oneOf]
theorem Calls.liftM {α : Type} {P : Program} {f : FuncId} {fn : Func} {c : Code} {args : List Value} {w : World} {m : Heap} {toV : α → Value} {S : α → Heap → Prop} {n : Nat}
    (hf : P.funcs[f]? = some fn) (hb : fn.body = some c) (hn : fn.ntmps = n) (hle : args.length ≤ n) (hr : Rel ⟨m, []⟩ w.heap)
    (sh : Prop) (H : sh) (h : sh → AtC P ⟨n, [], none⟩ ⟨w, m⟩ (bodyPostM (FW none) 0 P fn (Post ⟨w, m⟩ toV S)) (Frm.ofArgs args 0) ⟨m, []⟩ c) : Calls P f args.toArray w (Post ⟨w, m⟩ toV S) := by
  refine (callsIn_wide (n := 0)).1 (callsIn_of_wp_marks hf hb trivial ?_)
  refine h H _ w ⟨?_, rfl, ?_⟩ (InW.start hr)
  · simp [hn]; omega
  · intro t v hv
    obtain ⟨_, h2⟩ := Frm.ofArgs_get args 0 t v hv
    simp only [Nat.sub_zero] at h2
    have hlt : t < args.length := by
      rcases Nat.lt_or_ge t args.length with h | h
      · exact h
      · simp [List.getElem?_eq_none h] at h2
    simp only [List.getElem?_eq_getElem hlt, Option.some.injEq] at h2
    rw [Array.getElem?_append]
    simp [hlt, h2]
section
variable {α : Type} {P : Program} {n : Nat} {L : Frm} {h : Hp} {B B4 : Base} {toV : α → Value} {S : α → Heap → Prop} {fn : Func} {rs : List ResultVar} {vs : List Value} {r : α} {F : Fence} {k D : Nat}
theorem AtE.retP (hr : fn.results = rs.toArray) (hres : ResAll P ⟨n, [], none⟩ L h rs vs) (he : toV r = oneOf vs) (hS : S r h.m) : AtE ⟨n, [], none⟩ B (bodyPostM F k P fn (Post B toV S) .ret) L h := by
  intro a w ha hw
  show LeavesInM F k P fn a.tmps _ a.defers .returning w
  rw [ha.2.1]
  exact ⟨_, results_run hr hres ha hw.rel, r, h.m, by rw [he], hw.forget, hS⟩
theorem Lnk.out {w : World} {m : Heap} {o : Obj} (hk : Lnk B B4 D) (hw : InW B4 ⟨m, []⟩ w) : w.heap[D]? = some (.deferred (some [])) ∧ m[D]? = some junk ∧ InW B ⟨m, []⟩ (w.putObj D o) := by
  have kD := hw.keep D hk.jnk
  have h1 : InW B ⟨m, []⟩ w := by
    refine ⟨hw.os.trans hk.inw.os, hw.out.trans hk.inw.out, ⟨hw.tape.1.trans hk.inw.tape.1, Nat.le_trans hk.inw.tape.2 hw.tape.2⟩, hw.rel, fun b hb => ?_, fun b cs hb => by simp at hb, Nat.le_trans hk.inw.grow hw.grow⟩
    obtain ⟨e1, e2⟩ := hk.inw.keep b hb
    obtain ⟨e3, e4⟩ := hw.keep b e1
    exact ⟨e3, e4.trans e2⟩
  exact ⟨kD.2.trans hk.blk, kD.1, ((h1.but D).putB kD.1).old hk.ge⟩
theorem AtE.retM {m : Heap} (hk : Lnk B B4 D) (hr : fn.results = rs.toArray) (hres : ResAll P ⟨n, [mark D], none⟩ L ⟨m, []⟩ rs vs) (he : toV r = oneOf vs) (hS : S r m) :
    AtE ⟨n, [mark D], none⟩ B4 (bodyPostM F k P fn (Post B toV S) .ret) L ⟨m, []⟩ := by
  intro a w ha hw
  show LeavesInM F k P fn a.tmps _ a.defers .returning w
  rw [ha.2.1]
  obtain ⟨h1, h2, h3⟩ := hk.out (o := .deferred none) hw
  refine ⟨by simp, .inl ⟨D, _, rfl, run_takeDeferred h1, ?_⟩⟩
  exact ⟨_, results_run hr hres ha h3.rel, r, m, by rw [he], h3, hS⟩
end
end Go.Lift

namespace Go.Lift
open Go
open Go.ChangeMaps (setBlock)
def mapR {α : Type} (b : Nat) (Y : Int × α → Heap → (Heap → Prop) → Prop) (R : Heap → Prop) : Nat → List (Int × α) → Heap → Prop
  | 0, _, h => R h
  | n + 1, l, h => ∀ i (hi : i < l.length), Y l[i] h fun h' => h'[b]? = h[b]? ∧ mapR b Y R n (l.eraseIdx i) h'
def mapL {α : Type} (toV : α → Value) (kd : IntKind) (c0 : Addr) (Y : Int × α → Heap → (Heap → Prop) → Prop) (R : Heap → Prop) (h : Heap) : Prop :=
  Lift.load Value.map c0 h fun x => ∃ b f, x = some b ∧ mapEs kd h (some b) (vals toV f) ∧ Lift.mem h fun h0 => mapR b Y R f.length f h0
def mapV {α : Type} (toV : α → Value) (kd : IntKind) (c0 : Addr) (Y : α → Heap → (Heap → Prop) → Prop) (R : Heap → Prop) (h : Heap) : Prop := mapL toV kd c0 (fun p => Y p.2) R h
def mapK {α : Type} (toV : α → Value) (kd : IntKind) (c0 : Addr) (Y : Int → Heap → (Heap → Prop) → Prop) (R : Heap → Prop) (h : Heap) : Prop := mapL toV kd c0 (fun p => Y p.1) R h
section
variable {P : Program} {n : Ns} {L : Frm} {o : Oper} {B B' : Base} {ops : Array Oper} {Q : Exit → Act → World → Prop} {m m' : Heap} {a : Act} {w w' : World}
theorem wpIn_of_runW {r : Option Nat} {next : Act → World → Prop} {v : Value} (h : (execOp a.eval o).run P w = .ok (.value v) w') (hn : next (a.put o.dst v) w') : o.wpIn (FW r) 0 P a w next Q := by
  refine wpIn_of_wp (fun c hop => ?_) ?_
  · simp only [execOp, hop, Sem.run_bind] at h
    cases hr : (resolve a.eval c o.type).run P w <;> (rw [hr] at h; cases h)
  · unfold Oper.wp
    rw [h]
    exact hn
theorem AtL.raw {rest : List Oper} (hd : okDst o n.n = true) (H : ∀ a w, Agree n L a → InW B ⟨m, []⟩ w → ∃ v w' B' m', (execOp a.eval o).run P w = .ok (.value v) w' ∧ InW B' ⟨m', []⟩ w' ∧ AtL P n B' ops Q (L.put o.dst v) ⟨m', []⟩ rest) : AtL P n B ops Q L ⟨m, []⟩ (o :: rest) := by
  intro a w ha hw
  obtain ⟨hg, hd⟩ := okDst_spec hd
  refine wpListIn_plain hg fun K hK => ?_
  obtain ⟨v, w', B', m', h1, h2, h3⟩ := H a w ha hw
  exact wpIn_of_runW h1 (hK _ _ (h3 _ _ (ha.put hd) h2))
theorem AtL.rangeM {T : TTab} {rest : List Oper} {t kt e b : Nat} {x : Operand} {es : Array MapEntry} {c : Nat} (hT : TTab.Ok P T) (hd : okDst o n.n = true) (hop : o.op = .range t x) (ht : T.desc t = some (.map kt e)) (hx : L.ev x = some (.map (some b))) (hm : m[b]? = some (.map es c))
    (H : ∀ w, InW B ⟨m, []⟩ w → AtL P n ⟨w.alloc (.mapIter (some b) c #[] c), m.push junk⟩ ops Q (L.put o.dst (.pointer (some ⟨m.size, 0, none⟩))) ⟨m.push junk, []⟩ rest) : AtL P n B ops Q L ⟨m, []⟩ (o :: rest) := by
  refine AtL.raw hd fun a w ha hw => ?_
  have hb : w.heap[b]? = some (.map es c) := hw.rel.block hm map_ne_junk
  refine ⟨_, w.alloc (.mapIter (some b) c #[] c), _, _, ?_, InW.start (hw.pushJ _).rel, H w hw⟩
  have hs : w.heap.size = m.size := hw.rel.size
  have hrun : (Instr.range t (.map (some b))).run P w = .ok (.pointer (some ⟨m.size, 0, none⟩)) (w.alloc (.mapIter (some b) c #[] c)) := by
    unfold Instr.range
    simp only [Sem.run_bind, TTab.desc_run hT ht, Result.andThen, run_getObj hb]
    rw [← hs]; rfl
  simp only [execOp, hop, ha.eval hx, Sem.run_bind, hrun, Result.andThen]; rfl
theorem AtL.nextM {rest : List Oper} {r b since c0 : Nat} {x : Operand} {seen : Array Nat} {es : Array MapEntry} {c : Nat} (hd : okDst o n.n = true) (hop : o.op = .next x false) (hx : L.ev x = some (.pointer (some ⟨r, 0, none⟩)))
    (hj : B.h[r]? = some junk) (hr : B.w.heap[r]? = some (.mapIter (some b) since seen c0)) (hm : m[b]? = some (.map es c)) (hold : ∀ x ∈ es.toList, x.born < since) (hsc : since ≤ c0)
    (H0 : (leftOf es seen).size = 0 → AtL P n B ops Q (L.put o.dst (.tuple #[.bool false])) ⟨m, []⟩ rest)
    (H1 : ∀ e ∈ (leftOf es seen).toList, ∀ w, InW B ⟨m, []⟩ w → ∀ w1, (w1 = w ∨ w1 = w.drew) → AtL P n ⟨setBlock w1 r (.mapIter (some b) since (seen.push e.born) c), m⟩ ops Q (L.put o.dst (.tuple #[.bool true, e.key, e.val])) ⟨m, []⟩ rest) : AtL P n B ops Q L ⟨m, []⟩ (o :: rest) := by
  refine AtL.raw hd fun a w ha hw => ?_
  have hb : w.heap[b]? = some (.map es c) := hw.rel.block hm map_ne_junk
  have kr := hw.keep r hj
  rcases run_next_at (P := P) w o.type r b since c0 seen es c (kr.2.trans hr) hb hold hsc with ⟨h0, hrun⟩ | ⟨e, he, w1, hal, hrun⟩
  · exact ⟨_, w, B, m, by simp [execOp, hop, ha.eval hx, hrun, Result.andThen], hw, H0 h0⟩
  · refine ⟨_, _, _, _, by simp only [execOp, hop, ha.eval hx, Sem.run_bind, hrun, Result.andThen]; rfl, InW.start ?_, H1 e he w hw w1 hal⟩
    have : Rel ⟨m, []⟩ w1.heap := by rcases hal with rfl | rfl <;> exact hw.rel
    exact this.putJ (H := w1) kr.1
theorem AtL.entryM {rest : List Oper} {r b since : Nat} {x : Operand} {seen : Array Nat} {es : Array MapEntry} {c : Nat} {e : MapEntry} (hd : okDst o n.n = true) (hop : o.op = .entry x) (hx : L.ev x = some (.pointer (some ⟨r, 0, none⟩)))
    (hj : B.h[r]? = some junk) (hr : B.w.heap[r]? = some (.mapIter (some b) since (seen.push e.born) c)) (hm : m[b]? = some (.map es c)) (he : e ∈ es.toList) (hn : (es.toList.map (·.born)).Nodup)
    (H : AtL P n B ops Q (L.put o.dst (.tuple #[e.key, e.val])) ⟨m, []⟩ rest) : AtL P n B ops Q L ⟨m, []⟩ (o :: rest) := by
  refine AtL.raw hd fun a w ha hw => ?_
  have hb : w.heap[b]? = some (.map es c) := hw.rel.block hm map_ne_junk
  have kr := hw.keep r hj
  exact ⟨_, w, B, m, by simp only [execOp, hop, ha.eval hx, Sem.run_bind, run_entry_at w r b since seen es c e (kr.2.trans hr) hb he hn, Result.andThen]; rfl, hw, H⟩
theorem AtC.loopW {c : Code} (I : Nat → World → Heap → Prop) (M : Frm) {k : Nat} (h0 : ∀ w, InW B ⟨m, []⟩ w → I k w m) (hs : Frm.sub M L) (hrel : ∀ k w m, I k w m → Rel ⟨m, []⟩ w.heap)
    (round : ∀ k w m, I k w m → ∀ Q' : Act → World → Prop, (∀ k' m' B', k' < k → (∀ w', InW B' ⟨m', []⟩ w' → I k' w' m') → AtE n B' Q' M ⟨m', []⟩) → AtC P n ⟨w, m⟩ (Exit.then Q' Q) M ⟨m, []⟩ c) : AtC P n B Q L ⟨m, []⟩ (.loop c) := by
  intro a w ha hw
  refine wp_loop_rel (fun k a w => ∃ m, Agree n M a ∧ I k w m) (m := k) ⟨m, ha.weaken hs, h0 w hw⟩ ?_
  rintro k a w ⟨m, ha, hI⟩
  refine round k w m hI _ (fun k' m' B' hk H => ?_) a w ha (InW.start (hrel _ _ _ hI))
  intro a' w' ha' hw'
  exact ⟨k', hk, m', ha', H w' hw'⟩
end
theorem filter_erase (l : List MapEntry) (hn : (l.map (·.born)).Nodup) : ∀ (i : Nat) (hi : i < l.length), l.filter (fun e => e.born != (l[i]).born) = l.eraseIdx i := by
  induction l with
  | nil => intro i hi; simp at hi
  | cons x r ih =>
    intro i hi
    simp only [List.map_cons, List.nodup_cons] at hn
    cases i with
    | zero =>
      simp only [List.getElem_cons_zero, List.eraseIdx_zero, List.tail_cons]
      rw [List.filter_cons_of_neg (by simp)]
      refine List.filter_eq_self.2 fun y hy => ?_
      simp only [bne_iff_ne, ne_eq]
      exact fun e => hn.1 (e ▸ List.mem_map_of_mem hy)
    | succ i =>
      simp only [List.length_cons, Nat.add_lt_add_iff_right] at hi
      simp only [List.getElem_cons_succ, List.eraseIdx_cons_succ]
      rw [List.filter_cons_of_pos, ih hn.2 i hi]
      simp only [bne_iff_ne, ne_eq]
      exact fun e => hn.1 (e ▸ List.mem_map_of_mem (List.getElem_mem hi))
theorem leftOf_push {es : Array MapEntry} {seen : Array Nat} (hn : (es.toList.map (·.born)).Nodup) {i : Nat} (hi : i < (leftOf es seen).toList.length) : (leftOf es (seen.push ((leftOf es seen).toList[i]).born)).toList = (leftOf es seen).toList.eraseIdx i := by
  have h1 : ((leftOf es seen).toList.map (·.born)).Nodup := by
    unfold leftOf
    rw [Array.toList_filter]
    exact List.Sublist.nodup ((List.filter_sublist).map _) hn
  rw [← filter_erase _ h1 i hi]
  unfold leftOf
  simp only [Array.toList_filter, List.filter_filter]
  congr 1
  funext e
  simp only [Array.contains_push, bne, Bool.not_or, Bool.and_comm]
section
variable {α : Type} {toV : α → Value} {kd : IntKind} {W1 : World} {m1 : Heap} {b : Nat} {es : Array MapEntry} {c : Nat} {Y : Int × α → Heap → (Heap → Prop) → Prop} {R : Heap → Prop}
structure ItI (toV : α → Value) (kd : IntKind) (W1 : World) (m1 : Heap) (b : Nat) (es : Array MapEntry) (c : Nat) (Y : Int × α → Heap → (Heap → Prop) → Prop) (R : Heap → Prop) (k : Nat) (w : World) (m : Heap) : Prop where
  inw : InW ⟨W1, m1⟩ ⟨m, []⟩ w
  jnk : m[m1.size]? = some junk
  bm : m[b]? = some (.map es c)
  left : ∃ seen c0 l, w.heap[m1.size]? = some (.mapIter (some b) c seen c0) ∧ c ≤ c0 ∧ (leftOf es seen).toList.map (fun e => (e.key, e.val)) = l.map (fun p : Int × α => (Value.int kd p.1, toV p.2)) ∧ l.length = k ∧ mapR b Y R k l m
structure ItN (toV : α → Value) (kd : IntKind) (W1 : World) (m1 : Heap) (b : Nat) (es : Array MapEntry) (c : Nat) (Y : Int × α → Heap → (Heap → Prop) → Prop) (R : Heap → Prop) (p : Int × α) (k : Nat) (B2 : Base) (m : Heap) (K : Heap → Prop) : Prop where
  up : ∀ W, InW B2 ⟨m, []⟩ W → InW ⟨W1, m1⟩ ⟨m, []⟩ W
  ent : ∀ {P : Program} {n : Ns} {L : Frm} {o : Oper} {ops : Array Oper} {Q : Exit → Act → World → Prop} {rest : List Oper} {x : Operand}, okDst o n.n = true → o.op = .entry x → L.ev x = some (.pointer (some ⟨m1.size, 0, none⟩)) →
    AtL P n B2 ops Q (L.put o.dst (.tuple #[Value.int kd p.1, toV p.2])) ⟨m, []⟩ rest → AtL P n B2 ops Q L ⟨m, []⟩ (o :: rest)
  y : Y p m K
  nxt : ∀ W m' W', InW B2 ⟨m, []⟩ W → InW ⟨W, m⟩ ⟨m', []⟩ W' → K m' → ItI toV kd W1 m1 b es c Y R k W' m'
theorem InW.setJ {B : Base} {m : Heap} {w : World} {r : Nat} {o : Obj} (hi : InW B ⟨m, []⟩ w) (hj : m[r]? = some junk) (h : B.h.size ≤ r) : InW B ⟨m, []⟩ (setBlock w r o) :=
  ((hi.but r).putB (o := o) hj).old h
theorem InW.drewJ {B : Base} {m : Heap} {w : World} (hi : InW B ⟨m, []⟩ w) : InW B ⟨m, []⟩ w.drew :=
  ⟨hi.os, hi.out, ⟨hi.tape.1, Nat.le_succ_of_le hi.tape.2⟩, hi.rel, hi.keep, fun b cs hb => by simp at hb, hi.grow⟩
theorem ItI.start {f : List (Int × α)} (hr : Rel ⟨m1, []⟩ W1.heap) (he : Ents kd es c (vals toV f)) (hb : m1[b]? = some (.map es c)) {w w' : World} (hw : InW ⟨W1, m1⟩ ⟨m1, []⟩ w) (H : Lift.mem m1 fun h0 => mapR b Y R f.length f h0)
    (hw' : InW ⟨w.alloc (.mapIter (some b) c #[] c), m1.push junk⟩ ⟨m1.push junk, []⟩ w') : ItI toV kd W1 m1 b es c Y R f.length w' (m1.push junk) := by
  have hj : (m1.push junk)[m1.size]? = some junk := by simp
  have hs : w.heap.size = m1.size := hw.rel.size
  have hlt : b < m1.size := (Array.getElem?_eq_some_iff.1 hb).1
  refine ⟨(hw.pushJ _).call hw', hj, by rw [Array.getElem?_push, if_neg (by omega)]; exact hb, #[], c, f, ?_, Nat.le_refl _, ?_, rfl, H _ (MExt.push _ _)⟩
  · refine (hw'.keep m1.size hj).2.trans ?_
    show (w.heap.push _)[m1.size]? = _
    rw [← hs]; simp
  · have : leftOf es #[] = es := by unfold leftOf; exact Array.filter_eq_self.2 (by simp)
    rw [this, he.all]
    unfold vals
    rw [List.map_map]
    rfl
theorem AtL.nextI {P : Program} {n : Ns} {L : Frm} {o : Oper} {ops : Array Oper} {Q : Exit → Act → World → Prop} {rest : List Oper} {x : Operand} {k : Nat} {w : World} {m : Heap} {f : List (Int × Value)} (he : Ents kd es c f) (hI : ItI toV kd W1 m1 b es c Y R k w m)
    (hd : okDst o n.n = true) (hop : o.op = .next x false) (hx : L.ev x = some (.pointer (some ⟨m1.size, 0, none⟩)))
    (H0 : R m → AtL P n ⟨w, m⟩ ops Q (L.put o.dst (.tuple #[.bool false])) ⟨m, []⟩ rest)
    (H1 : ∀ p k' B2 K, k = k' + 1 → ItN toV kd W1 m1 b es c Y R p k' B2 m K → AtL P n B2 ops Q (L.put o.dst (.tuple #[.bool true, Value.int kd p.1, toV p.2])) ⟨m, []⟩ rest) : AtL P n ⟨w, m⟩ ops Q L ⟨m, []⟩ (o :: rest) := by
  obtain ⟨seen, c0, l, hr, hc0, hl, hk, hR⟩ := hI.left
  have hgr : m1.size ≤ m.size := hI.inw.grow
  refine AtL.nextM hd hop hx hI.jnk hr hI.bm (fun x hx => he.clock x hx) hc0 (fun h0 => H0 ?_) (fun e hel w2 hw2 w3 hw3 => ?_)
  · have h1 := congrArg List.length hl
    simp only [List.length_map, Array.length_toList, h0] at h1
    have : l = [] := List.eq_nil_of_length_eq_zero h1.symm
    subst this
    simp at hk; subst hk
    exact hR
  · obtain ⟨i, hi, rfl⟩ := List.getElem_of_mem hel
    have hil : i < l.length := by have := congrArg List.length hl; simp only [List.length_map] at this; omega
    have hp : ((leftOf es seen).toList[i].key, (leftOf es seen).toList[i].val) = (Value.int kd l[i].1, toV l[i].2) := by
      have h1 : (List.map (fun e => (e.key, e.val)) (leftOf es seen).toList)[i]'(by simpa using hi) = (List.map (fun p => (Value.int kd p.fst, toV p.snd)) l)[i]'(by simpa using hil) := List.getElem_of_eq hl _
      rw [List.getElem_map, List.getElem_map] at h1
      exact h1
    have hkey := (Prod.mk.inj hp).1
    have hval := (Prod.mk.inj hp).2
    obtain ⟨k', rfl⟩ : ∃ k', k = k' + 1 := ⟨k - 1, by omega⟩
    have hY := hR i hil
    rw [hkey, hval]
    have hes : (leftOf es seen).toList[i] ∈ es.toList := by
      have : (leftOf es seen).toList[i] ∈ (leftOf es seen).toList := List.getElem_mem hi
      generalize (leftOf es seen).toList[i] = e at this ⊢
      unfold leftOf at this
      rw [Array.toList_filter] at this
      exact (List.mem_filter.1 this).1
    have hw3' : InW ⟨w, m⟩ ⟨m, []⟩ w3 := hw3.elim (fun e => e ▸ hw2) (fun e => e ▸ hw2.drewJ)
    have hlt : m1.size < w3.heap.size := by
      have h1 : w3.heap.size = m.size := hw3'.rel.size
      have := (Array.getElem?_eq_some_iff.1 hI.jnk).1
      omega
    have hset : (setBlock w3 m1.size (.mapIter (some b) c (seen.push (leftOf es seen).toList[i].born) c)).heap[m1.size]? = some (.mapIter (some b) c (seen.push (leftOf es seen).toList[i].born) c) := by
      unfold setBlock; simp [hlt]
    have hup : InW ⟨W1, m1⟩ ⟨m, []⟩ (setBlock w3 m1.size (.mapIter (some b) c (seen.push (leftOf es seen).toList[i].born) c)) := (hI.inw.call hw3').setJ hI.jnk (Nat.le_refl _)
    refine H1 l[i] k' _ _ rfl ⟨fun W hW => hup.call hW, fun hd hop hx H => ?_, hY, fun W m' W' hW hW' hK => ?_⟩
    · refine AtL.entryM hd hop hx hI.jnk hset hI.bm hes he.born ?_
      rw [hkey, hval]; exact H
    · have j2 := hW'.keep m1.size hI.jnk
      refine ⟨(hup.call hW).call hW', j2.1, hK.1.trans hI.bm, seen.push (leftOf es seen).toList[i].born, c, l.eraseIdx i, ?_, Nat.le_refl _, ?_, ?_, hK.2⟩
      · exact j2.2.trans ((hW.keep m1.size hI.jnk).2.trans hset)
      · rw [leftOf_push he.born hi]
        rw [Go.ChangeMaps.map_eraseIdx, Go.ChangeMaps.map_eraseIdx, hl]
      · rw [List.length_eraseIdx_of_lt hil]; omega
end
end Go.Lift

namespace Go.Lift
open Go
theorem Y {α : Type} {a : α} : a = a := rfl
section
variable {P : Program} {T : TTab} {n : Ns} {L : Frm} {h : Hp} {o : Oper} {B : Base} {ops : Array Oper} {Q : Exit → Act → World → Prop}
theorem ng {y : Code} {R : Exit → Act → World → Prop} (H : AtC P n B Q L h y) : AtL P n B ops (Exit.then (y.wpIn (FW n.r) 0 P Q) R) L h [] := znl (ztn (AtE.go H))
theorem tg {y : Code} {R : Exit → Act → World → Prop} (H : AtC P n B Q L h y) : AtE n B (Exit.then (y.wpIn (FW n.r) 0 P Q) R .normal) L h := ztn (AtE.go H)
def ysB (ops : Array Oper) (L : Frm) (o : Oper) : Bool := match o.guard with
  | none => false
  | some (j, c) => match (ops[j]?).bind (·.dst) with
    | none => false
    | some t => match L.get t with
      | some (.bool b) => match b, c with
        | true, true => true
        | false, false => true
        | _, _ => false
      | _ => false
theorem ys {l : List Oper} (hb : ysB ops L o = true) (H : AtL P n B ops Q L h ({ o with guard := none } :: l)) : AtL P n B ops Q L h (o :: l) := by
  unfold ysB at hb
  split at hb
  · cases hb
  · rename_i j c hg
    split at hb
    · cases hb
    · rename_i t hj
      split at hb
      · rename_i b hv
        split at hb
        · exact AtL.yes hg hj hv H
        · exact AtL.yes hg hj hv H
        · cases hb
      · cases hb
def opB (ops : List Oper) (n i : Nat) : Option Oper := match ops[i]? with
  | none => none
  | some o => match o.guard with
    | some _ => none
    | none => match okD o n with
      | true => some o
      | false => none
theorem opB_spec {ops : List Oper} {i : Nat} (hb : opB ops n.n i = some o) : ops[i]? = some o ∧ o.guard = none ∧ okD o n.n = true := by
  unfold opB at hb
  split at hb
  · cases hb
  · rename_i o' ho
    split at hb
    · cases hb
    · rename_i hg
      split at hb
      · rename_i hd; cases hb; exact ⟨ho, hg, hd⟩
      · cases hb
def qpB (T : TTab) (n : Nat) (ops : List Oper) (V : Frm) (i : Nat) : Option (Value × Value) := match opB ops n i with
  | none => none
  | some o => match pureOp T (V.only (o.looksAt ops.toArray)) o.op with
    | none => none
    | some v => match V.getO o.dst v with
      | none => none
      | some u => some (v, u)
theorem qp {ops : List Oper} {V : Frm} {i : Nat} {r : List Nat} {v : Value} (hT : TTab.Ok P T) (hb : qpB T n.n ops V i = some (v, v)) (h2 : QAll P n ops V h r) : QAll P n ops V h (i :: r) := by
  refine QAll.cons ?_ h2
  unfold qpB at hb
  split at hb
  · cases hb
  · rename_i o ho
    obtain ⟨h3, h4, h5⟩ := opB_spec ho
    split at hb
    · cases hb
    · rename_i u hu
      split at hb
      · cases hb
      · rename_i u' hu'
        obtain ⟨rfl, rfl⟩ := Prod.mk.inj (Option.some.inj hb)
        exact QOp.p hT h3 h4 hu h5 hu'
theorem qq {ops : List Oper} {V : Frm} {i : Nat} {r : List Nat} {v : Value} (hb : opB ops n.n i = some o) (hq : Quiet1 P n (V.only (o.looksAt ops.toArray)) h o v) (hv : V.getO o.dst v = some v) (h2 : QAll P n ops V h r) : QAll P n ops V h (i :: r) :=
  QAll.cons (QOp.q (opB_spec hb).1 (opB_spec hb).2.1 hq (opB_spec hb).2.2 hv) h2
def lPf (T : TTab) (L : Frm) (h : Hp) (o : Oper) (i : Nat) : Option (Value × Nat × Nat) := match o.op with
  | .load t x => match nonAgg T t with
    | false => none
    | true => match L.ev x with
      | some (.pointer (some a)) => match a.spot with
        | some _ => none
        | none => match h.pv[i]? with
          | none => none
          | some (b, cs) => match cs[a.off]? with
            | none => none
            | some v => some (v, a.block, b)
      | _ => none
  | _ => none
theorem lP (hT : TTab.Ok P T) (i : Nat) {v : Value} {b : Nat} (hb : lPf T L h o i = some (v, b, b)) : Quiet1 P n L h o v := by
  unfold lPf at hb
  split at hb
  · rename_i t x hop
    split at hb
    · cases hb
    · rename_i ht
      split at hb
      · rename_i a hx
        split at hb
        · cases hb
        · rename_i hs
          split at hb
          · cases hb
          · rename_i b' cs hp
            split at hb
            · cases hb
            · rename_i u hv
              simp only [Option.some.injEq, Prod.mk.injEq] at hb
              obtain ⟨rfl, h1, rfl⟩ := hb
              exact Quiet1.loadP hT hop ht hx (by rw [h1]; exact hp) hs hv
      · cases hb
  · cases hb
theorem r1 {α : Type} {toV : α → Value} {S : α → Heap → Prop} {fn : Func} {v : Value} {r : α} (t : Nat) (hr : fn.results = [ResultVar.tmp t].toArray) (hv : L.get t = some v) (he : toV r = oneOf [v]) (hS : S r h.m) (hd : n.ds = [] := by rfl) :
    AtE n B (bodyPost P fn (Post B toV S) .ret) L h := AtE.retN (rs := [.tmp t]) hr (ResAll.cons (ResAt.tmp hv) ResAll.nil) he hS hd
theorem sR {id : Nat} {l : List Oper} {y : Code} (H : AtL P n B l.toArray (Exit.then (y.wpIn (FW n.r) 0 P Q) Q) L h l) : AtC P n B Q L h (.seq (.region id l.toArray false) y) := AtC.seqR H
theorem qn {ops : List Oper} {V : Frm} {i j t : Nat} {b c : Bool} {r : List Nat} (ho : ops[i]? = some o) (hg : o.guard = some (j, c)) (hj : (ops[j]?).bind (·.dst) = some t) (hv' : V.get t = some (.bool b)) (hbc : b ≠ c) (hd : okD o n.n = true) (hv : V.getO o.dst undef = some undef) (h2 : QAll P n ops V h r) : QAll P n ops V h (i :: r) := QAll.cons (QOp.no ho hg hj hv' hbc hd hv) h2
end
section
variable {P : Program} {T : TTab} {n : Ns} {L : Frm} {m0 : Heap} {pv0 : List (Nat × List Value)} {o : Oper} {B : Base}
theorem cl {α : Type} {f : FuncId} {args : Array Operand} {tys : Array TypeId} {vs : List Value} {toV : α → Value} {S : α → Heap → Prop}
    (sh : Heap → Prop) (H0 : sh m0) (hop : o.op = .call ⟨.value (.func f), args, tys⟩) (hcall : ∀ vs w, (callFunc f vs).run P w = .ok (.enter f vs) w)
    (hvs : evArgs L args.toList = some vs) (hl : ∀ w m, Rel ⟨m, []⟩ w.heap → sh m → Calls P f vs.toArray w (Post ⟨w, m⟩ toV S)) :
    Eff P n B L ⟨m0, pv0⟩ o (fun v h' => ∃ r m, v = toV r ∧ h' = ⟨m, pv0⟩ ∧ S r m) := EffX.call hop hcall hvs sh H0 hl
end
end Go.Lift

namespace Go.Lift
open Go
def Lf {α : Type} (P : Program) (f : FuncId) (args : List Value) (toV : α → Value) (F : Heap → (α → Heap → Prop) → Prop) : Prop :=
  ∀ (w : World) (m : Heap), Rel ⟨m, []⟩ w.heap → ∀ S, F m S → Calls P f args.toArray w (Post ⟨w, m⟩ toV S)
theorem Lf.go {α : Type} {P : Program} {f : FuncId} {fn : Func} {c : Code} {args : List Value} {toV : α → Value} {F : Heap → (α → Heap → Prop) → Prop} {n : Nat} {M : Frm}
    (hf : P.funcs[f]? = some fn) (hn : fn.ntmps = n) (hb : fn.body = some c) (hle : Nat.ble args.length n = true) (ts : List Nat) (hp : (Frm.ofArgs args 0).pick ts = some M)
    (h : ∀ (w : World) m S, F m S → AtC P ⟨n, [], none⟩ ⟨w, m⟩ (bodyPost P fn (Post ⟨w, m⟩ toV S)) M ⟨m, []⟩ c) : Lf P f args toV F :=
  fun w m hr S H => Calls.lift hf hb hn (Nat.le_of_ble_eq_true hle) hr (F m S) H fun H => AtC.pick hp (h w m S H)
section
variable {P : Program} {T : TTab} {n : Ns} {L : Frm} {m0 : Heap} {pv0 : List (Nat × List Value)} {o : Oper} {B : Base} {ops : Array Oper} {Q : Exit → Act → World → Prop} {l : List Oper} {h : Hp}
def clf (L : Frm) (n : Nat) (o : Oper) : Option (FuncId × List Value) := match okDst o n with
  | false => none
  | true => match o.op with
    | .call c => match c with
      | ⟨.value (.func f), args, _⟩ => match evArgs L args.toList with
        | some vs => some (f, vs)
        | none => none
      | _ => none
    | _ => none
theorem clf_spec {f : FuncId} {vs : List Value} (hb : clf L n.n o = some (f, vs)) : okDst o n.n = true ∧ ∃ args tys, o.op = .call ⟨.value (.func f), args, tys⟩ ∧ evArgs L args.toList = some vs := by
  unfold clf at hb
  split at hb
  · cases hb
  · rename_i hd
    split at hb
    · rename_i c hop
      split at hb
      · rename_i f' args tys
        split at hb
        · rename_i vs' hv
          simp only [Option.some.injEq, Prod.mk.injEq] at hb
          obtain ⟨rfl, rfl⟩ := hb
          exact ⟨hd, args, tys, hop, hv⟩
        · cases hb
      · cases hb
    · cases hb
theorem lc {α : Type} {f : FuncId} {vs : List Value} {toV : α → Value} {F : Heap → (α → Heap → Prop) → Prop} {S : α → Heap → Prop} (hl : Lf P f vs toV F) (H : F m0 S) (hc : ∀ vs w, (callFunc f vs).run P w = .ok (.enter f vs) w) (hb : clf L n.n o = some (f, vs))
    (next : ∀ r m, S r m → AtL P n B ops Q (L.put o.dst (toV r)) ⟨m, pv0⟩ l) : AtL P n B ops Q L ⟨m0, pv0⟩ (o :: l) := by
  obtain ⟨hd, args, tys, hop, hv⟩ := clf_spec hb
  refine zle hd (EffX.call hop hc hv (fun h => F h S) H fun w m hr hw => hl w m hr S hw) ?_
  rintro _ _ ⟨r, m, rfl, rfl, H⟩
  exact next r m H
def runPG (T : TTab) (n : Nat) (ops : Array Oper) : Nat → Frm → List Oper → Option (Frm × List Oper)
  | 0, L, l => some (L, l)
  | _ + 1, _, [] => none
  | k + 1, L, o :: l => match o.guard with
    | none => match okDst o n with
      | false => none
      | true => match pureOp T L o.op with
        | some v => runPG T n ops k (L.put o.dst v) l
        | none => none
    | some (j, c) => match (ops[j]?).bind (·.dst) with
      | none => none
      | some t => match L.get t with
        | some (.bool b) => match b, c with
          | true, true => runPG T n ops k L ({ o with guard := none } :: l)
          | false, false => runPG T n ops k L ({ o with guard := none } :: l)
          | true, false => match okDst { o with guard := none } n with
            | true => runPG T n ops k (L.put o.dst undef) l
            | false => none
          | false, true => match okDst { o with guard := none } n with
            | true => runPG T n ops k (L.put o.dst undef) l
            | false => none
        | _ => none
theorem pg (hT : TTab.Ok P T) : ∀ (k : Nat) {L L' : Frm} {l l' : List Oper}, runPG T n.n ops k L l = some (L', l') → AtL P n B ops Q L' h l' → AtL P n B ops Q L h l := by
  intro k
  induction k with
  | zero =>
    intro L L' l l' hr H
    simp only [runPG, Option.some.injEq, Prod.mk.injEq] at hr
    obtain ⟨rfl, rfl⟩ := hr
    exact H
  | succ k ih =>
    intro L L' l l' hr H
    cases l with
    | nil => simp [runPG] at hr
    | cons o l =>
      unfold runPG at hr
      split at hr
      · split at hr
        · cases hr
        · rename_i hd
          split at hr
          · rename_i v hv
            exact zlq hd (Quiet1.pure hT hv) (ih hr H)
          · cases hr
      · rename_i j c hg
        split at hr
        · cases hr
        · rename_i t hj
          split at hr
          · rename_i b hv
            split at hr
            · exact AtL.yes hg hj hv (ih hr H)
            · exact AtL.yes hg hj hv (ih hr H)
            · split at hr
              · rename_i hd
                exact AtL.noF hg hj hv (by decide) hd (ih hr H)
              · cases hr
            · split at hr
              · rename_i hd
                exact AtL.noF hg hj hv (by decide) hd (ih hr H)
              · cases hr
          · cases hr
theorem nk {x : Operand} {p : Option Addr} {k : Addr → Prop} (H : nilChk p k) (hd : okDst o n.n = true) (hop : o.op = .nilCheck x) (hx : L.ev x = some (.pointer p)) (next : ∀ a, k a → AtL P n B ops Q (L.put o.dst (.pointer (some a))) h l) : AtL P n B ops Q L h (o :: l) := by
  obtain ⟨a, hp, H⟩ := H
  exact zlq hd (zqc hop hx hp) (next a H)
theorem ld {α : Type} {toV : α → Value} {t : Nat} {x : Operand} {a : Addr} {k : α → Prop} (hT : TTab.Ok P T) (H : Lift.load toV a m0 k) (hd : okDst o n.n = true) (hop : o.op = .load t x) (ht : nonAgg T t = true) (hx : L.ev x = some (.pointer (some a)))
    (next : ∀ v, k v → AtL P n B ops Q (L.put o.dst (toV v)) ⟨m0, pv0⟩ l) : AtL P n B ops Q L ⟨m0, pv0⟩ (o :: l) := by
  obtain ⟨v, hc, H⟩ := H
  exact zlq hd (zql hT hop ht hx hc) (next v H)
theorem lds {α : Type} {toC : α → List Value} {t s : Nat} {x : Operand} {a : Addr} {k : α → Prop} (hT : TTab.Ok P T) (H : loadS toC s a m0 k) (hd : okDst o n.n = true) (hop : o.op = .load t x) (ht : yesAgg T t = true) (hs : T.size t = some s) (hx : L.ev x = some (.pointer (some a)))
    (next : ∀ v, k v → AtL P n B ops Q (L.put o.dst (.agg (toC v).toArray)) ⟨m0, pv0⟩ l) : AtL P n B ops Q L ⟨m0, pv0⟩ (o :: l) := by
  obtain ⟨v, hc, H⟩ := H
  exact zlq hd (zqs hT hop ht hs hx hc) (next v H)
theorem ix {t e sz : Nat} {x i : Operand} {s : Sl} {kd : IntKind} {j : Int} {k : Addr → Prop} (hT : TTab.Ok P T) (H : Lift.idxS s j sz k) (hd : okDst o n.n = true) (hop : o.op = .indexAddr t x i) (ht : T.desc t = some (.slice e)) (hs : T.size e = some sz) (hx : L.ev x = some (.slice s.a s.len s.cap)) (hi : L.ev i = some (.int kd j))
    (next : ∀ a, k a → AtL P n B ops Q (L.put o.dst (.pointer (some a))) h l) : AtL P n B ops Q L h (o :: l) := by
  obtain ⟨a, h1, h2, H⟩ := H
  exact zlq hd (zqi hT hop ht hs hx hi h1 h2) (next _ H)
theorem bx {t : Nat} {x : Operand} {v : Value} {k : Heap → Prop} (cs : List Value) (H : Lift.mem m0 k) (hd : okDst o n.n = true) (hop : o.op = .box t x) (hx : L.ev x = some v) (hcs : v.cells = cs.toArray)
    (next : ∀ b m, Lift.mem m k → AtL P n B ops Q (L.put o.dst (.pointer (some ⟨b, 0, none⟩))) ⟨m, (b, cs) :: pv0⟩ l) : AtL P n B ops Q L ⟨m0, pv0⟩ (o :: l) := by
  refine zle hd (EffX.boxP hop hx hcs H) ?_
  rintro _ _ ⟨b, m, rfl, rfl, _, H⟩
  exact next b m H
theorem al {t : Nat} {k : Heap → Prop} (hT : TTab.Ok P T) (cs : List Value) (H : Lift.mem m0 k) (hd : okDst o n.n = true) (hop : o.op = .alloc t) (hz : T.zero t = some cs)
    (next : ∀ b m, Lift.mem m k → AtL P n B ops Q (L.put o.dst (.pointer (some ⟨b, 0, none⟩))) ⟨m, (b, cs) :: pv0⟩ l) : AtL P n B ops Q L ⟨m0, pv0⟩ (o :: l) := by
  refine zle hd (zea hT hop hz H) ?_
  rintro _ _ ⟨b, m, rfl, rfl, _, H⟩
  exact next b m H
theorem sp {t s : Nat} {x y : Operand} {a : Addr} {vs cs : List Value} (hT : TTab.Ok P T) (i : Nat) (qv : List (Nat × List Value)) (hop : o.op = .store t x y) (hs : T.size t = some s) (hx : L.ev x = some (.pointer (some a))) (hy : L.ev y = some (.agg vs.toArray)) (hl : vs.length = s) (ho : oneCells vs = true) (hp : pv0[i]? = some (a.block, cs)) (hsp : a.spot = none) (hle : Nat.ble (a.off + s) cs.length = true) (hq : pv0.set i (a.block, setsAt cs a.off vs) = qv) (hd : okDst o n.n = true)
    (next : ∀ v, AtL P n B ops Q (L.put o.dst v) ⟨m0, qv⟩ l) : AtL P n B ops Q L ⟨m0, pv0⟩ (o :: l) := by
  refine zle hd (zes hT hop hs hx hy hl ho hp hsp hle hq) ?_
  rintro v _ rfl
  exact next v
theorem eo {ops : List Oper} {E : List Nat} {A G : List (List Nat)} {D : List Nat} {V : Frm} {k i : Nat} {K : Value → Hp → Prop} (hb : opB ops n.n i = some o) (he : Eff P n B (V.only (o.looksAt ops.toArray)) h o K)
    (H : ∀ v h', K v h' → nextK P n B Q ops E A G k D V i o v h') : EAll P n B Q ops E A G k D V h [i] := by
  obtain ⟨h1, h2, h3⟩ := opB_spec hb
  exact EAll.cons (EOp.e h1 h2 h3 he H) EAll.nil
def clE (ops : List Oper) (n i : Nat) (V : Frm) : Option (Oper × FuncId × List Value) := match opB ops n i with
  | none => none
  | some o => match clf (V.only (o.looksAt ops.toArray)) n o with
    | some (f, vs) => some (o, f, vs)
    | none => none
theorem ec {α : Type} {ops : List Oper} {E : List Nat} {A G : List (List Nat)} {D : List Nat} {V : Frm} {k i : Nat} {f : FuncId} {vs : List Value} {toV : α → Value} {F : Heap → (α → Heap → Prop) → Prop} {S : α → Heap → Prop} (hl : Lf P f vs toV F) (H : F m0 S) (hc : ∀ vs w, (callFunc f vs).run P w = .ok (.enter f vs) w) (hb : clE ops n.n i V = some (o, f, vs))
    (next : ∀ r m, S r m → nextK P n B Q ops E A G k D V i o (toV r) ⟨m, pv0⟩) : EAll P n B Q ops E A G k D V ⟨m0, pv0⟩ [i] := by
  unfold clE at hb
  split at hb
  · cases hb
  · rename_i o' ho
    split at hb
    · rename_i f' vs' hcl
      simp only [Option.some.injEq, Prod.mk.injEq] at hb
      obtain ⟨rfl, rfl, rfl⟩ := hb
      obtain ⟨_, args, tys, hop, hv⟩ := clf_spec hcl
      refine eo ho (EffX.call hop hc hv (fun h => F h S) H fun w m hr hw => hl w m hr S hw) ?_
      rintro _ _ ⟨r, m, rfl, rfl, H⟩
      exact next r m H
    · cases hb
def lSf (T : TTab) (L : Frm) (h : Hp) (o : Oper) (i : Nat) : Option (List Value × Nat × Nat) := match o.op with
  | .load t x => match yesAgg T t with
    | false => none
    | true => match T.size t with
      | none => none
      | some s => match L.ev x with
        | some (.pointer (some a)) => match a.spot with
          | some _ => none
          | none => match h.pv[i]? with
            | none => none
            | some (b, cs) => match Nat.beq ((cs.drop a.off).take s).length s with
              | false => none
              | true => some ((cs.drop a.off).take s, a.block, b)
        | _ => none
  | _ => none
theorem lS2 (hT : TTab.Ok P T) (i : Nat) (l : List Value) {b : Nat} (hb : lSf T L h o i = some (l, b, b)) : Quiet1 P n L h o (.agg l.toArray) := by
  unfold lSf at hb
  split at hb
  · rename_i t x hop
    split at hb
    · cases hb
    · rename_i ht
      split at hb
      · cases hb
      · rename_i s hs
        split at hb
        · rename_i a hx
          split at hb
          · cases hb
          · rename_i hsp
            split at hb
            · cases hb
            · rename_i b' cs hp
              split at hb
              · cases hb
              · rename_i hl
                simp only [Option.some.injEq, Prod.mk.injEq] at hb
                obtain ⟨rfl, h1, rfl⟩ := hb
                exact Quiet1.loadSP hT hop ht hs hx (by rw [h1]; exact hp) hsp rfl (Nat.eq_of_beq_eq_true hl)
        · cases hb
  · cases hb
def pkf (L : Frm) (h : Hp) (ts is : List Nat) : Option (Frm × Heap × List (Nat × List Value)) := match L.pick ts with
  | none => none
  | some M => match decide is.Nodup with
    | false => none
    | true => match pickPv h.pv is with
      | none => none
      | some qv => some (M, h.m, qv)
theorem pko {B : Base} {M : Frm} {K : Act → World → Prop} {R : Exit → Act → World → Prop} {m : Heap} {qv : List (Nat × List Value)} (H : AtE n B K M ⟨m, qv⟩) (ts is : List Nat) (hb : pkf L h ts is = some (M, m, qv)) : AtE n B (Exit.then K R .normal) L h := by
  unfold pkf at hb
  split at hb
  · cases hb
  · rename_i M' hp
    split at hb
    · cases hb
    · rename_i hd
      split at hb
      · cases hb
      · rename_i qv' hq
        simp only [Option.some.injEq, Prod.mk.injEq] at hb
        obtain ⟨rfl, rfl, rfl⟩ := hb
        exact ztn (H.pickP rfl hp (of_decide_eq_true hd) hq)
theorem rc {α : Type} {toV : α → Value} {S : α → Heap → Prop} {fn : Func} {r : α} {c t s i : Nat} {ad : Addr} {cs : List Value} (hT : TTab.Ok P T) (l : List Value) (hr : fn.results = [ResultVar.cell c t].toArray) (hv : L.get c = some (.pointer (some ad))) (ht : yesAgg T t = true) (hs : T.size t = some s) (hp : h.pv[i]? = some (ad.block, cs)) (hsp : ad.spot = none) (hc : (cs.drop ad.off).take s = l) (hl : l.length = s) (he : toV r = oneOf [.agg l.toArray]) (hS : S r h.m) (hd : n.ds = [] := by rfl) :
    AtE n B (bodyPost P fn (Post B toV S) .ret) L h := AtE.retN (rs := [.cell c t]) hr (ResAll.cons (ResAt.cellSP hT hv ht hs hp hsp hc hl) ResAll.nil) he hS hd
end
abbrev ra := List.range
def nm : Nat → List Value → Frm
  | _, [] => []
  | k, v :: r => (k, v) :: nm (k + 1) r
def rl : List (List Nat × Nat) → List (List Nat)
  | [] => []
  | (l, n) :: r => List.replicate n l ++ rl r
end Go.Lift

namespace Go.Lift
open Go
theorem Lf.goM {α : Type} {P : Program} {f : FuncId} {fn : Func} {c : Code} {args : List Value} {toV : α → Value} {F : Heap → (α → Heap → Prop) → Prop} {n : Nat} {M : Frm}
    (hf : P.funcs[f]? = some fn) (hn : fn.ntmps = n) (hb : fn.body = some c) (hle : Nat.ble args.length n = true) (ts : List Nat) (hp : (Frm.ofArgs args 0).pick ts = some M)
    (h : ∀ (w : World) m S, F m S → AtC P ⟨n, [], none⟩ ⟨w, m⟩ (bodyPostM (FW none) 0 P fn (Post ⟨w, m⟩ toV S)) M ⟨m, []⟩ c) : Lf P f args toV F :=
  fun w m hr S H => Calls.liftM hf hb hn (Nat.le_of_ble_eq_true hle) hr (F m S) H fun H => AtC.pick hp (h w m S H)
end Go.Lift

namespace Go.Lift
open Go
structure Keep (o : Option Nat) (h h' : Heap) : Prop where
  size : h.size ≤ h'.size
  same : ∀ b, b < h.size → some b ≠ o → h'[b]? = h[b]?
abbrev Ext (h h' : Heap) : Prop := Keep none h h'
theorem Keep.refl (o : Option Nat) (h : Heap) : Keep o h h := ⟨Nat.le_refl _, fun _ _ _ => rfl⟩
theorem Keep.trans {o : Option Nat} {a b c : Heap} (h : Keep o a b) (k : Keep o b c) : Keep o a c :=
  ⟨Nat.le_trans h.size k.size, fun i hi hne => (k.same i (Nat.lt_of_lt_of_le hi h.size) hne).trans (h.same i hi hne)⟩
theorem Keep.of_ext {o : Option Nat} {a b : Heap} (h : Ext a b) : Keep o a b := ⟨h.size, fun i hi _ => h.same i hi (by simp)⟩
theorem Keep.fresh {o : Option Nat} {a b c : Heap} (h : Keep o a b) {n : Nat} (hn : a.size ≤ n) (k : Keep (some n) b c) : Keep o a c :=
  ⟨Nat.le_trans h.size k.size, fun i hi hne => (k.same i (Nat.lt_of_lt_of_le hi h.size) (by simp; omega)).trans (h.same i hi hne)⟩
theorem Ext.push (h : Heap) (o : Obj) : Ext h (h.push o) :=
  ⟨by simp, fun b hb _ => by rw [Array.getElem?_push]; simp [Nat.ne_of_lt hb]⟩
theorem Keep.setCell (h : Heap) (a : Addr) (v : Value) : Keep (some a.block) h (setCell h a v) :=
  ⟨by simp [Lift.setCell], fun b _ hne => by
    have : a.block ≠ b := fun e => hne (by rw [e])
    simp [Lift.setCell, Array.getElem?_modify, this]⟩
theorem cell_lt {h : Heap} {a : Addr} {v : Value} (hc : cell? h a = some v) : a.block < h.size := by
  unfold cell? at hc
  cases hb : h[a.block]? with
  | none => simp [hb] at hc
  | some o => exact (Array.getElem?_eq_some_iff.1 hb).1
theorem cell_keep {o : Option Nat} {h h' : Heap} (k : Keep o h h') {a : Addr} {v : Value} (hc : cell? h a = some v) (hne : some a.block ≠ o) : cell? h' a = some v := by
  have := k.same a.block (cell_lt hc) hne
  unfold cell? at hc ⊢
  rw [this]; exact hc
theorem frozen_keep {o : Option Nat} {h h' : Heap} (k : Keep o h h') {a : Addr} {f : Bool} (hl : a.block < h.size) (hf : frozen? h a = f) (hne : some a.block ≠ o) : frozen? h' a = f := by
  have := k.same a.block hl hne
  unfold frozen? at hf ⊢
  rw [this]; exact hf
theorem addr_add (a : Addr) (i : Nat) (hs : a.spot = none) : a.add i = ⟨a.block, a.off + i, none⟩ := by
  unfold Addr.add
  split
  · rename_i h; subst h; cases a; simp_all
  · rfl
theorem addr_add_block (a : Addr) (i : Nat) : (a.add i).block = a.block := by unfold Addr.add; split <;> rfl
theorem addr_add_add (a : Addr) (i j : Nat) : (a.add i).add j = a.add (i + j) := by
  unfold Addr.add
  by_cases hi : i = 0
  · simp [hi]
  · by_cases hj : j = 0
    · simp [hj]
    · have : i + j ≠ 0 := by omega
      simp [hi, hj, Nat.add_assoc]
structure R {α : Type} (toV : α → Value) (h : Heap) (s : Sl) (xs : List α) : Prop where
  len : s.len = xs.length
  cap : s.len ≤ s.cap
  cells : cellsO? h s.a s.len = some (xs.map toV)
theorem cells?_get {h : Heap} {a : Addr} : ∀ (n i : Nat) (l : List Value), cells? h a n i = some l → ∀ j (hj : j < l.length), cell? h (a.add (i + j)) = some l[j] := by
  intro n
  induction n with
  | zero => intro i l hc j hj; simp [cells?] at hc; subst hc; simp at hj
  | succ n ih =>
    intro i l hc j hj
    simp only [cells?] at hc
    split at hc
    · rename_i v r h1 h2
      simp only [Option.some.injEq] at hc; subst hc
      cases j with
      | zero => simpa using h1
      | succ j =>
        have := ih (i + 1) r h2 j (by simpa using hj)
        simp only [List.getElem_cons_succ]
        rw [← this]
        congr 2
        omega
    · cases hc
theorem cells?_mk {h : Heap} {a : Addr} : ∀ (l : List Value) (i : Nat), (∀ j (hj : j < l.length), cell? h (a.add (i + j)) = some l[j]) → cells? h a l.length i = some l := by
  intro l
  induction l with
  | nil => intro i _; rfl
  | cons v l ih =>
    intro i hc
    have h0 := hc 0 (by simp)
    simp only [Nat.add_zero, List.getElem_cons_zero] at h0
    have h1 := ih (i + 1) (fun j hj => by
      have := hc (j + 1) (by simpa using hj)
      simp only [List.getElem_cons_succ] at this
      rw [← this]
      congr 2
      omega)
    simp only [List.length_cons, cells?, h0, h1]
variable {α : Type} {toV : α → Value} {h h' : Heap} {s : Sl} {xs : List α}
theorem R.get (hr : R toV h s xs) {i : Nat} (hi : i < xs.length) : ∃ a, s.a = some a ∧ cell? h (a.add i) = some (toV xs[i]) := by
  have hc := hr.cells
  cases ha : s.a with
  | none =>
    rw [ha] at hc
    simp only [cellsO?, Option.some.injEq] at hc
    have : xs = [] := by cases xs with
      | nil => rfl
      | cons x xs => simp at hc
    subst this; simp at hi
  | some a =>
    rw [ha] at hc
    simp only [cellsO?] at hc
    refine ⟨a, rfl, ?_⟩
    have := cells?_get _ 0 _ hc i (by simpa using hi)
    simpa using this
theorem R.mk' (hl : s.len = xs.length) (hcap : s.len ≤ s.cap) (a : Addr) (ha : s.a = some a) (hc : ∀ i (hi : i < xs.length), cell? h (a.add i) = some (toV xs[i])) : R toV h s xs := by
  refine ⟨hl, hcap, ?_⟩
  rw [ha, hl]
  show cells? h a xs.length 0 = _
  have := cells?_mk (h := h) (a := a) (xs.map toV) 0 (fun j hj => by
    have := hc j (by simpa using hj)
    simpa using this)
  simpa using this
theorem R.nil : R toV h Sl.nil ([] : List α) := ⟨rfl, Nat.le_refl _, rfl⟩
theorem R.nil_of (hl : s.len = 0) : R toV h s ([] : List α) := by
  refine ⟨by simpa using hl, by omega, ?_⟩
  rw [hl]
  cases s.a <;> rfl
theorem R.keep (hr : R toV h s xs) {o : Option Nat} (k : Keep o h h') (hne : ∀ a, s.a = some a → some a.block ≠ o) : R toV h' s xs := by
  cases ha : s.a with
  | none =>
    refine ⟨hr.len, hr.cap, ?_⟩
    have := hr.cells
    rw [ha] at this ⊢
    exact this
  | some a =>
    refine R.mk' hr.len hr.cap a ha (fun i hi => ?_)
    obtain ⟨a', ha', hc⟩ := hr.get hi
    rw [ha] at ha'; cases ha'
    exact cell_keep k hc (by rw [addr_add_block]; exact hne a ha)
theorem R.ext (hr : R toV h s xs) (k : Ext h h') : R toV h' s xs := hr.keep k (fun _ _ => by simp)
theorem R.lt (hr : R toV h s xs) {a : Addr} (ha : s.a = some a) (hne : xs ≠ []) : a.block < h.size := by
  have : 0 < xs.length := by cases xs with
    | nil => exact absurd rfl hne
    | cons x xs => simp
  obtain ⟨a', ha', hc⟩ := hr.get this
  rw [ha] at ha'; cases ha'
  have := cell_lt hc
  rwa [addr_add_block] at this
theorem R.idx (hr : R toV h s xs) {i : Int} {k : Addr → Prop} (h0 : 0 ≤ i) (h1 : i < xs.length) (K : ∀ a, s.a = some a → cell? h (a.add i.toNat) = some (toV (xs[i.toNat]'(by omega))) → k (a.add i.toNat)) : idxS s i 1 k := by
  obtain ⟨a, ha, hc⟩ := hr.get (i := i.toNat) (by omega)
  refine ⟨a, ha, ⟨h0, by rw [hr.len]; exact h1⟩, ?_⟩
  rw [Nat.mul_one]
  exact K a ha hc
theorem R.load (hr : R toV h s xs) {i : Int} {k : α → Prop} (h0 : 0 ≤ i) (h1 : i < xs.length) (K : k (xs[i.toNat]'(by omega))) : idxS s i 1 fun a => Lift.load toV a h k :=
  hr.idx h0 h1 fun _ _ hc => ⟨_, hc, K⟩
structure Own {α : Type} (toV : α → Value) (B : Nat) (h : Heap) (s : Sl) (xs : List α) : Prop where
  r : R toV h s xs
  own : (s.a = none ∧ s.cap = 0) ∨ ∃ b c T, s.a = some ⟨b, 0, none⟩ ∧ B ≤ b ∧ h[b]? = some (.cells c T (0, 0)) ∧ s.cap ≤ c.size
def Sl.blk (s : Sl) : Option Nat := s.a.map (·.block)
theorem Own.nil {B : Nat} : Own toV B h Sl.nil ([] : List α) := ⟨R.nil, .inl ⟨rfl, rfl⟩⟩
theorem Own.mono {B C : Nat} (ho : Own toV B h s xs) (hc : C ≤ B) : Own toV C h s xs := ⟨ho.r, ho.own.imp id fun ⟨b, c, T, h1, h2, h3, h4⟩ => ⟨b, c, T, h1, by omega, h3, h4⟩⟩
theorem Own.lt {B : Nat} (ho : Own toV B h s xs) {b : Nat} (hb : s.blk = some b) : B ≤ b ∧ b < h.size := by
  rcases ho.own with ⟨h1, _⟩ | ⟨b', c, T, h1, h2, h3, _⟩
  · simp [Sl.blk, h1] at hb
  · simp [Sl.blk, h1] at hb
    subst hb
    exact ⟨h2, (Array.getElem?_eq_some_iff.1 h3).1⟩
theorem Own.keep {B : Nat} (ho : Own toV B h s xs) {o : Option Nat} (k : Keep o h h') (hne : ∀ b, s.blk = some b → some b ≠ o) : Own toV B h' s xs := by
  refine ⟨ho.r.keep k (fun a ha => hne a.block (by simp [Sl.blk, ha])), ?_⟩
  rcases ho.own with h1 | ⟨b, c, T, h1, h2, h3, h4⟩
  · exact .inl h1
  · refine .inr ⟨b, c, T, h1, h2, ?_, h4⟩
    rw [k.same b (Array.getElem?_eq_some_iff.1 h3).1 (hne b (by simp [Sl.blk, h1]))]
    exact h3
theorem Own.ext {B : Nat} (ho : Own toV B h s xs) (k : Ext h h') : Own toV B h' s xs := ho.keep k (fun _ _ => by simp)
theorem cell_push_new (h : Heap) (c : Array Value) (T : Nat) (f : Nat × Nat) (i : Nat) : cell? (h.push (.cells c T f)) ⟨h.size, i, none⟩ = c[i]? := by
  unfold cell?
  simp
theorem cell_push_new_add (h : Heap) (c : Array Value) (T : Nat) (f : Nat × Nat) (i : Nat) : cell? (h.push (.cells c T f)) ((⟨h.size, 0, none⟩ : Addr).add i) = c[i]? := by
  rw [addr_add _ _ rfl]
  simp [cell_push_new]
theorem Own.new {ys : List α} {cs : List Value} {T : Nat} (hcs : cs = ys.map toV) : Own toV h.size (h.push (.cells cs.toArray T (0, 0))) ⟨some ⟨h.size, 0, none⟩, ys.length, ys.length⟩ ys := by
  subst hcs
  refine ⟨R.mk' rfl (Nat.le_refl _) ⟨h.size, 0, none⟩ rfl (fun i hi => ?_), .inr ⟨h.size, (ys.map toV).toArray, T, rfl, Nat.le_refl _, by simp, by simp⟩⟩
  rw [cell_push_new_add]
  simp [hi]
theorem setCells_keep (a : Addr) : ∀ (vs : List Value) (i : Nat) (h : Heap), Keep (some a.block) h (setCells h a vs i) := by
  intro vs
  induction vs with
  | nil => intro i h; exact Keep.refl _ _
  | cons v vs ih =>
    intro i h
    have := Keep.setCell h (a.add i) v
    rw [addr_add_block] at this
    exact this.trans (ih (i + 1) _)
theorem one_of (hone : ∀ x : α, one (toV x) = true) (ys : List α) : oneCells (ys.map toV) = true := by
  simp [oneCells, hone]
theorem block_set {h : Heap} {b i : Nat} {c : Array Value} {T : Nat} {f : Nat × Nat} (hb : h[b]? = some (.cells c T f)) (v : Value) :
    (setCell h ⟨b, i, none⟩ v)[b]? = some (.cells (c.setIfInBounds i v) T f) := by
  simp [setCell, Array.getElem?_modify, hb]
theorem frozen_none {h : Heap} {b i : Nat} {c : Array Value} {T : Nat} (hb : h[b]? = some (.cells c T (0, 0))) : frozen? h ⟨b, i, none⟩ = false := by
  unfold frozen?
  simp [hb]
theorem setCells_block {b : Nat} {T : Nat} : ∀ (vs : List Value) (o i : Nat) (h : Heap) (c : Array Value), h[b]? = some (.cells c T (0, 0)) → o + i + vs.length ≤ c.size →
    ∃ c', (setCells h ((⟨b, o, none⟩ : Addr)) vs i)[b]? = some (.cells c' T (0, 0)) ∧ c'.size = c.size ∧ (∀ j, j < o + i → c'[j]? = c[j]?) ∧ (∀ j (hj : j < vs.length), c'[o + i + j]? = some vs[j]) ∧ canSet h ⟨b, o, none⟩ vs.length i := by
  intro vs
  induction vs with
  | nil => intro o i h c hb _; exact ⟨c, hb, rfl, fun _ _ => rfl, fun j hj => by simp at hj, trivial⟩
  | cons v vs ih =>
    intro o i h c hb hle
    simp only [List.length_cons] at hle
    have ha : ((⟨b, o, none⟩ : Addr)).add i = ⟨b, o + i, none⟩ := addr_add _ _ rfl
    have hcell : cell? h ⟨b, o + i, none⟩ = some (c[o + i]'(by omega)) := by
      unfold cell?
      simp [hb]
    have hb' := block_set hb v (i := o + i)
    obtain ⟨c', h1, h2, h3, h4, h5⟩ := ih o (i + 1) (setCell h ⟨b, o + i, none⟩ v) (c.setIfInBounds (o + i) v) hb' (by simp; omega)
    refine ⟨c', ?_, by simpa using h2, ?_, ?_, ?_⟩
    · simp only [setCells, ha]; exact h1
    · intro j hj
      rw [h3 j (by omega)]
      rw [Array.getElem?_setIfInBounds_ne (by omega)]
    · intro j hj
      cases j with
      | zero =>
        rw [h3 (o + i + 0) (by omega)]
        simp only [Nat.add_zero, List.getElem_cons_zero]
        rw [Array.getElem?_setIfInBounds]
        simp; omega
      | succ j =>
        have := h4 j (by simpa using hj)
        simp only [List.getElem_cons_succ]
        rw [← this]
        congr 1
        omega
    · refine ⟨⟨_, by rw [ha]; exact hcell⟩, by rw [ha]; exact frozen_none hb, ?_⟩
      -- what may be set afterwards may be set before
      have : ∀ (n k : Nat), o + k + n ≤ c.size → canSet h ⟨b, o, none⟩ n k := by
        intro n
        induction n with
        | zero => intro k _; trivial
        | succ n ihn =>
          intro k hk
          refine ⟨?_, ?_, ihn (k + 1) (by omega)⟩
          · rw [addr_add _ _ rfl]
            refine ⟨c[o + k]'(by omega), ?_⟩
            unfold cell?
            simp [hb]
          · rw [addr_add _ _ rfl]; exact frozen_none hb
      exact this vs.length (i + 1) (by omega)
theorem Own.append {B bytes : Nat} {ys : List α} {x : Sl} {k : Sl → Heap → Prop} (ho : Own toV B h s xs) (hB : B ≤ h.size) (hx : R toV h x ys) (hone : ∀ x : α, one (toV x) = true) (hb : (xs.length + ys.length) * bytes ≤ 2 ^ 46)
    (K : ∀ s' h', Own toV B h' s' (xs ++ ys) → Keep s.blk h h' → (s'.blk = s.blk ∨ s'.blk = some h.size ∧ h'.size = h.size + 1) → k s' h') : appendS 1 bytes s x h k := by
  refine ⟨ys.map toV, by rw [Nat.mul_one]; exact hx.cells, one_of hone ys, by rw [ho.r.len, hx.len]; exact hb, ?_, ?_⟩
  · intro hfit
    rcases ho.own with ⟨ha, hcap⟩ | ⟨b, c, T, ha, hBb, hblk, hcs⟩
    · have h1 : s.len = 0 := by have := ho.r.cap; omega
      have h2 : x.len = 0 := by omega
      have hys : ys = [] := List.eq_nil_of_length_eq_zero (by rw [← hx.len]; exact h2)
      subst hys
      simp only [ha]
      refine K _ _ ⟨⟨by simp [ho.r.len, h2], by simpa using hfit, ?_⟩, .inl ⟨rfl, hcap⟩⟩ (Keep.refl _ _) (.inl (by simp [Sl.blk, ha]))
      have := ho.r.cells
      rw [ha] at this
      simp only [cellsO?] at this ⊢
      simpa using this
    · have hlen := ho.r.len
      have hxl := hx.len
      simp only [ha, Nat.mul_one]
      rw [addr_add _ _ rfl]
      simp only [Nat.zero_add]
      obtain ⟨c', h1, h2, h3, h4, h5⟩ := setCells_block (T := T) (ys.map toV) s.len 0 h c hblk (by simp; omega)
      refine ⟨h5, K _ _ ⟨R.mk' (by simp [hlen, hxl]) (by simpa using hfit) ⟨b, 0, none⟩ rfl ?_, .inr ⟨b, c', T, rfl, hBb, h1, by simp [h2]; omega⟩⟩ ?_ (.inl (by simp [Sl.blk, ha]))⟩
      · intro i hi
        rw [addr_add _ _ rfl]
        unfold cell?
        simp only [h1, Nat.zero_add, Option.isSome_none, Bool.false_eq_true, if_false]
        by_cases hlt : i < xs.length
        · rw [h3 i (by omega)]
          obtain ⟨a', ha', hc⟩ := ho.r.get hlt
          rw [ha] at ha'; cases ha'
          rw [addr_add _ _ rfl] at hc
          unfold cell? at hc
          simp [hblk] at hc
          rw [hc]
          simp [List.getElem_append, hlt]
        · have hj : i - xs.length < ys.length := by simp at hi; omega
          have := h4 (i - xs.length) (by simpa using hj)
          rw [show s.len + 0 + (i - xs.length) = i from by omega] at this
          rw [this]
          simp [List.getElem_append, hlt]
      · have := setCells_keep ⟨b, s.len, none⟩ (ys.map toV) 0 h
        simpa [Sl.blk, ha] using this
  · intro hgrow
    refine ⟨xs.map toV, by rw [Nat.mul_one]; exact ho.r.cells, ?_⟩
    intro cap T rest hcap hrest
    refine K _ _ ⟨R.mk' (by simp [ho.r.len, hx.len]) (by simpa using hcap) ⟨h.size, 0, none⟩ rfl ?_, .inr ⟨h.size, _, T, rfl, hB, by simp; rfl, ?_⟩⟩ (Keep.of_ext (Ext.push _ _)) (.inr ⟨by simp [Sl.blk], by simp⟩)
    · intro i hi
      rw [cell_push_new_add]
      have hi' : i < (xs.map toV ++ ys.map toV).length := by simpa using hi
      simp only [List.getElem?_toArray]
      rw [List.getElem?_append_left hi', List.getElem?_eq_getElem hi']
      simp [← List.map_append]
    · have h1 := ho.r.len
      have h2 := hx.len
      simp [hrest]
      omega
theorem Own.store {B : Nat} (ho : Own toV B h s xs) {i : Nat} (hi : i < xs.length) {a : Addr} (ha : s.a = some a) (y : α) {k : Heap → Prop}
    (K : ∀ h', Own toV B h' s (xs.set i y) → Keep s.blk h h' → h'.size = h.size → k h') : Lift.store (a.add i) (toV y) h k := by
  obtain ⟨a', ha', hc⟩ := ho.r.get hi
  rw [ha] at ha'; cases ha'
  rcases ho.own with ⟨h1, _⟩ | ⟨b, c, T, h1, h2, h3, h4⟩
  · rw [h1] at ha; cases ha
  · rw [h1] at ha; cases ha
    have hai : (({ block := b, off := 0, spot := none } : Addr)).add i = ⟨b, i, none⟩ := by rw [addr_add _ _ rfl]; simp
    rw [hai] at hc ⊢
    refine ⟨⟨_, hc⟩, frozen_none h3, K _ ⟨R.mk' (by simp [ho.r.len]) ho.r.cap _ h1 ?_, .inr ⟨b, _, T, h1, h2, block_set h3 _, by simpa using h4⟩⟩ ?_ (by simp [setCell])⟩
    · intro j hj
      have hj' : j < xs.length := by simpa using hj
      rw [addr_add _ _ rfl]
      simp only [Nat.zero_add]
      by_cases e : i = j
      · subst e
        rw [cell_set_same hc]
        simp
      · rw [cell_set_ne (.inr (.inl e))]
        obtain ⟨a'', ha'', hc''⟩ := ho.r.get hj'
        rw [h1] at ha''; cases ha''
        rw [addr_add _ _ rfl] at hc''
        simp only [Nat.zero_add] at hc''
        rw [hc'']
        simp [List.getElem_set, e]
    · have := Keep.setCell h ⟨b, i, none⟩ (toV y)
      simpa [Sl.blk, h1] using this
theorem R.take (hr : R toV h s xs) {i : Int} {k : Sl → Prop} (h0 : 0 ≤ i) (h1 : i ≤ xs.length) (K : ∀ s', R toV h s' (xs.take i.toNat) → s'.blk = s.blk → s'.a = s.a ∨ s'.len = 0 → s'.len ≤ s.len → k s') : sliceOf s none (some i) none 1 k := by
  have hl := hr.len
  have hcap := hr.cap
  refine ⟨⟨by simp, by simp⟩, ⟨h0, .inr (by simp; omega)⟩, ⟨by simp, by simpa using h0⟩, ?_⟩
  simp only [Option.getD_none, Option.getD_some, Int.toNat_zero, Nat.sub_zero, Nat.zero_mul]
  have hadd : ∀ o : Option Addr, o.map (fun a => a.add 0) = o := by
    intro o; cases o <;> simp [Addr.add]
  have heq : (if (s.cap : Int) = 0 then s.a else s.a.map (fun a => a.add 0)) = s.a := by rw [hadd]; simp
  rw [heq]
  refine K _ ?_ rfl (.inl rfl) (by simp; omega)
  cases ha : s.a with
  | none =>
    have hx : xs = [] := by
      have := hr.cells; rw [ha] at this
      simp only [cellsO?, Option.some.injEq] at this
      cases xs with
      | nil => rfl
      | cons x xs => simp at this
    subst hx
    refine ⟨?_, ?_, ?_⟩
    · simp at h1 ⊢; omega
    · simp; simp at h1; omega
    · simp [cellsO?]
  | some a =>
    refine R.mk' ?_ ?_ a rfl ?_
    · simp; omega
    · simp; omega
    · intro j hj
      simp only [List.length_take] at hj
      obtain ⟨a', ha', hc⟩ := hr.get (i := j) (by omega)
      rw [ha] at ha'; cases ha'
      rw [hc]
      simp
end Go.Lift

namespace Go.Lift
def val (b : Nat) : List Nat → Nat
  | [] => 0
  | x :: xs => x + b * val b xs
def Lim (b : Nat) (xs : List Nat) : Prop := ∀ x ∈ xs, x < b
def Nrm (xs : List Nat) : Prop := xs.getLast? ≠ some 0
theorem Lim.append {b : Nat} {xs ys : List Nat} (h : Lim b xs) (k : Lim b ys) : Lim b (xs ++ ys) := by
  intro x hx
  rcases List.mem_append.1 hx with hx | hx
  · exact h x hx
  · exact k x hx
theorem Lim.take {b : Nat} {xs : List Nat} (h : Lim b xs) (n : Nat) : Lim b (xs.take n) := fun x hx => h x (List.mem_of_mem_take hx)
theorem Lim.get {b : Nat} {xs : List Nat} (h : Lim b xs) {i : Nat} (hi : i < xs.length) : xs[i] < b := h _ (List.getElem_mem hi)
theorem Lim.nil {b : Nat} : Lim b [] := fun x hx => by cases hx
theorem Lim.set {b : Nat} {xs : List Nat} (h : Lim b xs) (i : Nat) {x : Nat} (k : x < b) : Lim b (xs.set i x) := by
  intro y hy
  rcases List.mem_or_eq_of_mem_set hy with hy | rfl
  · exact h y hy
  · exact k
theorem Nrm.nil : Nrm [] := by simp [Nrm]
theorem Nrm.tail {x : Nat} {xs : List Nat} (h : Nrm (x :: xs)) : Nrm xs := by
  unfold Nrm at *
  cases xs with
  | nil => simp
  | cons y ys => simpa [List.getLast?_cons_cons] using h
end Go.Lift

namespace Go.Lift
open Go
theorem w64 {n : Int} (h1 : -9223372036854775808 ≤ n) (h2 : n < 9223372036854775808) : IntKind.wrap .i64 n = n := by rw [IntKind.wrap_i64]; omega
abbrev RI (k : IntKind) (h : Heap) (s : Sl) (xs : List Nat) : Prop := R (fun n : Nat => Value.int k (n : Int)) h s xs
theorem RI.ld {kd : IntKind} {h : Heap} {s : Sl} {xs : List Nat} (hr : RI kd h s xs) {i : Int} {j : Nat} {k : Int → Prop} (hij : i = (j : Int)) (h1 : j < xs.length) (K : k (xs[j] : Nat)) : idxS s i 1 fun a => Lift.load (Value.int kd) a h k := by
  subst hij
  obtain ⟨a, ha, hc⟩ := hr.get h1
  have := hr.len
  refine ⟨a, ha, ⟨by omega, by omega⟩, ?_⟩
  refine ⟨_, ?_, K⟩
  simpa using hc
end Go.Lift

namespace Go.Lift
open Go Go.Sort
abbrev iI : Int → Value := Value.int .i64
def modB (blk : Nat) (f : Array Value → Array Value) (H : Heap) : Heap := H.modify blk (onCells f)
theorem modB_size (blk : Nat) (f : Array Value → Array Value) (H : Heap) : (modB blk f H).size = H.size := by simp [modB]
theorem modB_get (blk : Nat) (f : Array Value → Array Value) (H : Heap) (b : Nat) : (modB blk f H)[b]? = if blk = b then H[b]?.map (onCells f) else H[b]? := by unfold modB; rw [modify_get]
theorem Rel.modB {m H : Heap} (hr : Rel ⟨m, []⟩ H) (blk : Nat) (f : Array Value → Array Value) (os : Array Obj) : Rel ⟨modB blk f m ++ os, []⟩ (modB blk f H ++ os) := by
  have hs : H.size = m.size := hr.size
  refine ⟨by simp [modB_size, hs], fun b => ?_, fun b cs hb => by simp at hb, by simp⟩
  by_cases hb : b < m.size
  · rw [Array.getElem?_append_left (by rw [modB_size]; exact hb), Array.getElem?_append_left (by rw [modB_size]; omega), modB_get, modB_get]
    rcases hr.same b with h1 | h1
    · left
      rw [h1]
      split <;> rfl
    · right
      rw [h1]
  · right
    rw [Array.getElem?_append_right (by rw [modB_size]; omega), Array.getElem?_append_right (by rw [modB_size]; omega), modB_size, modB_size, hs]
theorem read_grow {w w' : World} {m m' : Heap} (hr : Rel ⟨m, []⟩ w.heap) (hi : InW ⟨w, m⟩ ⟨m', []⟩ w') (e : Ext m m') : ∃ q os', w' = grow (w.drewN q) os' := by
  have hs : w.heap.size = m.size := hr.size
  have hs' : w'.heap.size = m'.size := hi.rel.size
  have es := e.size
  refine ⟨w'.drawn - w.drawn, w'.heap.extract w.heap.size w'.heap.size, ?_⟩
  have hh : w'.heap = w.heap ++ w'.heap.extract w.heap.size w'.heap.size := by
    apply Array.ext_getElem?
    intro b
    by_cases hb : b < w.heap.size
    · rw [Array.getElem?_append_left hb]
      have hbm : b < m.size := by omega
      have em := e.same b hbm (by simp)
      rcases hi.rel.same b with h1 | h1
      · have h1 : m'[b]? = some junk := h1
        rw [em] at h1
        exact (hi.keep b h1).2
      · have h1 : w'.heap[b]? = m'[b]? := h1
        rw [h1, em]
        rcases hr.same b with h2 | h2
        · have h2 : m[b]? = some junk := h2
          have := hi.keep b h2
          have h3 : w'.heap[b]? = w.heap[b]? := this.2
          rw [← h3, h1, em]
        · exact h2.symm
    · rw [Array.getElem?_append_right (by omega)]
      by_cases hb2 : b < w'.heap.size
      · simp [Array.getElem?_extract, show w.heap.size + (b - w.heap.size) = b by omega]
        omega
      · rw [Array.getElem?_eq_none (by omega), Array.getElem?_eq_none (by simp; omega)]
  have h1 := hi.os; have h2 := hi.out; have h3 := hi.tape.1; have h4 := hi.tape.2
  dsimp only at h1 h2 h3 h4
  cases w' with
  | mk hp tp dr os ot =>
    cases w with
    | mk hp0 tp0 dr0 os0 ot0 =>
      dsimp only at h1 h2 h3 h4 hh ⊢
      subst h1 h2 h3
      unfold grow World.drewN
      dsimp only
      rw [show dr0 + (dr - dr0) = dr by omega, ← hh]
def SortC (P : Program) (f g : Nat) (cb : Array Value) (cf : Int → Int → Int) : Prop :=
  ∀ (blk off cap : Nat) (d : Array Int) (w : World),
    (∀ (k : Nat) (os : Array Obj) (dk : Array Int), dk.size = d.size → ∀ x y : Int, Calls P g (#[iI x, iI y] ++ cb) (grow (putRow iI (Sort.ahead w k) blk off dk) os) fun e w' => e = .returned (iI (cf x y)) ∧ ∃ q os', w' = grow ((grow (putRow iI (Sort.ahead w k) blk off dk) os).drewN q) os') →
    Holds iI w blk off d → blk < w.heap.size → d.size < 4611686018427387904 →
    Calls P f #[.slice (some ⟨blk, off, none⟩) d.size cap, .func (.func g) #[] cb] w fun e w' =>
      e = .returned (.tuple #[]) ∧ ∃ d' k os, PermIn 0 d.size d d' ∧ SortedIn (fun x y => decide (cf x y < 0)) 0 d.size d' ∧ w' = grow (putRow iI (Sort.ahead w k) blk off d') os
theorem lift_sort {P : Program} {f g : Nat} {cb : Array Value} {cf : Int → Int → Int} {cmpS : Int → Int → Heap → (Int → Heap → Prop) → Prop} (hC : SortC P f g cb cf)
    (hc : ∀ (x y : Int) (w : World) (m : Heap), Rel ⟨m, []⟩ w.heap → ∀ S : Int → Heap → Prop, cmpS x y m S → Calls P g (#[iI x, iI y] ++ cb) w (Post ⟨w, m⟩ iI S))
    {w : World} {m : Heap} (hr : Rel ⟨m, []⟩ w.heap) {S : Unit → Heap → Prop} {blk off cap : Nat} {d : Array Int} {c : Array Value} {T : TypeId}
    (hb : m[blk]? = some (.cells c T (0, 0))) (hd : ∀ j, j < d.size → c[off + j]? = some (iI d[j]!)) (hs : d.size < 4611686018427387904)
    (hcmp : ∀ (dk : Array Int) (os : Array Obj), dk.size = d.size → ∀ x y, cmpS x y (modB blk (putCells iI off dk) m ++ os) fun v m' => v = cf x y ∧ Ext (modB blk (putCells iI off dk) m ++ os) m')
    (H : ∀ (d' : Array Int) (os : Array Obj), PermIn 0 d.size d d' → SortedIn (fun x y => decide (cf x y < 0)) 0 d.size d' → S () (modB blk (putCells iI off d') m ++ os)) :
    Calls P f #[.slice (some ⟨blk, off, none⟩) d.size cap, .func (.func g) #[] cb] w fun e w' => e = .returned (.tuple #[]) ∧ ∃ m', InW ⟨w, m⟩ ⟨m', []⟩ w' ∧ S () m' := by
  have hW : w.heap[blk]? = some (.cells c T (0, 0)) := hr.cellsAt hb
  have hlt : blk < w.heap.size := (Array.getElem?_eq_some_iff.1 hW).1
  refine (hC blk off cap d w ?_ ?_ hlt hs).mono ?_
  · intro k os dk hdk x y
    have hr2 : Rel ⟨modB blk (putCells iI off dk) m ++ os, []⟩ (grow (putRow iI (Sort.ahead w k) blk off dk) os).heap := hr.modB blk _ os
    refine (hc x y _ _ hr2 _ (hcmp dk os hdk x y)).mono ?_
    rintro e w' ⟨r, m', rfl, hi, rfl, e'⟩
    exact ⟨rfl, read_grow hr2 hi e'⟩
  · intro j hj
    have := hd j hj
    constructor
    · unfold World.cell?
      simp only [hW]
      simpa using this
    · unfold World.frozen?
      simp [hW]
  · rintro e w' ⟨rfl, d', k, os, hp, hso, rfl⟩
    refine ⟨rfl, _, ⟨rfl, rfl, ⟨rfl, by show w.drawn ≤ w.drawn + k; omega⟩, hr.modB blk _ os, ?_, fun b cs h => by simp at h, by simp [modB_size]⟩, H d' os hp hso⟩
    intro b hbj
    have hbj : m[b]? = some junk := hbj
    have hne : blk ≠ b := fun e => by
      subst e; rw [hb] at hbj
      exact cells_ne_junk (Option.some.inj hbj)
    have hbm : b < m.size := (Array.getElem?_eq_some_iff.1 hbj).1
    have hsz : w.heap.size = m.size := hr.size
    constructor
    · show (modB blk (putCells iI off d') m ++ os)[b]? = some junk
      rw [Array.getElem?_append_left (by rw [modB_size]; exact hbm), modB_get, if_neg hne]
      exact hbj
    · show (modB blk (putCells iI off d') w.heap ++ os)[b]? = w.heap[b]?
      rw [Array.getElem?_append_left (by rw [modB_size]; omega), modB_get, if_neg hne]
def sortP (cmpS : Int → Int → Heap → (Int → Heap → Prop) → Prop) (s : Sl) (h : Heap) (Q : Unit → Heap → Prop) : Prop :=
  ∃ (blk off : Nat) (c : Array Value) (T : TypeId) (xs : List Int) (cf : Int → Int → Int), s.a = some ⟨blk, off, none⟩ ∧ s.len = xs.length ∧ xs.length < 4611686018427387904 ∧ h[blk]? = some (.cells c T (0, 0)) ∧ (∀ j (hj : j < xs.length), c[off + j]? = some (iI xs[j])) ∧
    SWO (fun x y => decide (cf x y < 0)) ∧ (∀ (ys : List Int) (os : Array Obj), ys.length = xs.length → ∀ x y, cmpS x y (modB blk (putCells iI off ys.toArray) h ++ os) fun v m' => v = cf x y ∧ Ext (modB blk (putCells iI off ys.toArray) h ++ os) m') ∧
    ∀ (ys : List Int) (os : Array Obj), ys.Perm xs → ys.Pairwise (fun x y => ¬ cf y x < 0) → Q () (modB blk (putCells iI off ys.toArray) h ++ os)
def sortI (s : Sl) (h : Heap) (Q : Unit → Heap → Prop) : Prop :=
  ∃ (blk off : Nat) (c : Array Value) (T : TypeId) (xs : List Int), s.a = some ⟨blk, off, none⟩ ∧ s.len = xs.length ∧ xs.length < 4611686018427387904 ∧ h[blk]? = some (.cells c T (0, 0)) ∧ (∀ j (hj : j < xs.length), c[off + j]? = some (iI xs[j])) ∧
    ∀ (ys : List Int) (os : Array Obj), ys.Perm xs → ys.Pairwise (fun x y => x ≤ y) → Q () (modB blk (putCells iI off ys.toArray) h ++ os)
theorem permIn_list {d d' : Array Int} (h : PermIn 0 d.size d d') : d'.toList.Perm d.toList := by
  obtain ⟨h1, _, h3⟩ := h
  have e1 : d'.extract 0 d.size = d' := by rw [← h1]; simp
  have e2 : d.extract 0 d.size = d := by simp
  rwa [e1, e2] at h3
theorem sortedIn_list {lt : Int → Int → Bool} {d' : Array Int} (h : SortedIn lt 0 d'.size d') : d'.toList.Pairwise (fun x y => lt y x = false) := by
  rw [List.pairwise_iff_getElem]
  intro i j hi hj hij
  simp only [Array.length_toList] at hi hj
  have := h i j (Nat.zero_le _) hij hj
  rwa [getElem!_pos d' j hj, getElem!_pos d' i hi] at this
theorem lift_sortP {P : Program} {f g : Nat} {cb : Array Value} {cmpS : Int → Int → Heap → (Int → Heap → Prop) → Prop} (hC : ∀ cf : Int → Int → Int, SWO (fun x y => decide (cf x y < 0)) → SortC P f g cb cf)
    (hc : ∀ (x y : Int) (w : World) (m : Heap), Rel ⟨m, []⟩ w.heap → ∀ S : Int → Heap → Prop, cmpS x y m S → Calls P g (#[iI x, iI y] ++ cb) w (Post ⟨w, m⟩ iI S))
    {w : World} {m : Heap} (hr : Rel ⟨m, []⟩ w.heap) {S : Unit → Heap → Prop} {s : Sl} (H : sortP cmpS s m S) : Calls P f #[Sl.toV s, .func (.func g) #[] cb] w (Post ⟨w, m⟩ (fun _ => .tuple #[]) S) := by
  obtain ⟨blk, off, c, T, xs, cf, ha, hl, hs, hb, hx, hO, hcmp, H⟩ := H
  have e1 : Sl.toV s = .slice (some ⟨blk, off, none⟩) xs.toArray.size s.cap := by unfold Sl.toV; rw [ha, hl]; simp
  rw [e1]
  refine (lift_sort (hC cf hO) hc hr (S := S) hb (d := xs.toArray) (fun j hj => ?_) (by simpa using hs) (fun dk os hdk x y => ?_) (fun d' os hp hso => ?_)).mono ?_
  · have hj' : j < xs.length := by simpa using hj
    rw [hx j hj', getElem!_pos xs.toArray j hj]; simp
  · have := hcmp dk.toList os (by simpa using hdk) x y
    simpa using this
  · have h1 := permIn_list hp
    have hsz : d'.size = xs.toArray.size := hp.1
    rw [← hsz] at hso
    have h2 := sortedIn_list hso
    have := H d'.toList os (by simpa using h1) (h2.imp fun h => by simpa using h)
    simpa using this
  · rintro e w' ⟨rfl, m', hi, hS⟩
    exact ⟨(), m', rfl, hi, hS⟩
def SortIC (P : Program) (f : Nat) : Prop :=
  ∀ (blk off cap : Nat) (zs : List Int) (w : World), Holds iI w blk off zs.toArray → blk < w.heap.size → zs.length < 4611686018427387904 →
    Calls P f #[.slice (some ⟨blk, off, none⟩) zs.length cap] w fun e w' => e = .returned (.tuple #[]) ∧ ∃ n os, w' = grow (putRow iI (Sort.ahead w n) blk off (zs.mergeSort fun x y => decide (x ≤ y)).toArray) os
theorem sort_inW {w : World} {m : Heap} (hr : Rel ⟨m, []⟩ w.heap) {blk off k : Nat} {c : Array Value} {T : TypeId} (hb : m[blk]? = some (.cells c T (0, 0))) (d' : Array Int) (os : Array Obj) :
    InW ⟨w, m⟩ ⟨modB blk (putCells iI off d') m ++ os, []⟩ (grow (putRow iI (Sort.ahead w k) blk off d') os) := by
  refine ⟨rfl, rfl, ⟨rfl, by show w.drawn ≤ w.drawn + k; omega⟩, hr.modB blk _ os, ?_, fun b cs h => by simp at h, by simp [modB_size]⟩
  intro b hbj
  have hbj : m[b]? = some junk := hbj
  have hne : blk ≠ b := fun e => by
    subst e; rw [hb] at hbj
    exact cells_ne_junk (Option.some.inj hbj)
  have hbm : b < m.size := (Array.getElem?_eq_some_iff.1 hbj).1
  have hsz : w.heap.size = m.size := hr.size
  constructor
  · show (modB blk (putCells iI off d') m ++ os)[b]? = some junk
    rw [Array.getElem?_append_left (by rw [modB_size]; exact hbm), modB_get, if_neg hne]
    exact hbj
  · show (modB blk (putCells iI off d') w.heap ++ os)[b]? = w.heap[b]?
    rw [Array.getElem?_append_left (by rw [modB_size]; omega), modB_get, if_neg hne]
theorem holds_of {w : World} {m : Heap} (hr : Rel ⟨m, []⟩ w.heap) {blk off : Nat} {c : Array Value} {T : TypeId} (hb : m[blk]? = some (.cells c T (0, 0))) {d : Array Int} (hd : ∀ j, j < d.size → c[off + j]? = some (iI d[j]!)) : Holds iI w blk off d := by
  have hW : w.heap[blk]? = some (.cells c T (0, 0)) := hr.cellsAt hb
  intro j hj
  have := hd j hj
  constructor
  · unfold World.cell?
    simp only [hW]
    simpa using this
  · unfold World.frozen?
    simp [hW]
theorem lift_sortI {P : Program} {f : Nat} (hC : SortIC P f) {w : World} {m : Heap} (hr : Rel ⟨m, []⟩ w.heap) {S : Unit → Heap → Prop} {s : Sl} (H : sortI s m S) : Calls P f #[Sl.toV s] w (Post ⟨w, m⟩ (fun _ => .tuple #[]) S) := by
  obtain ⟨blk, off, c, T, xs, ha, hl, hs, hb, hx, H⟩ := H
  have e1 : Sl.toV s = .slice (some ⟨blk, off, none⟩) xs.length s.cap := by unfold Sl.toV; rw [ha, hl]
  rw [e1]
  have hW : w.heap[blk]? = some (.cells c T (0, 0)) := hr.cellsAt hb
  refine (hC blk off s.cap xs w (holds_of hr hb fun j hj => ?_) (Array.getElem?_eq_some_iff.1 hW).1 hs).mono ?_
  · have hj' : j < xs.length := by simpa using hj
    rw [hx j hj', getElem!_pos xs.toArray j hj]; simp
  · rintro e w' ⟨rfl, n, os, rfl⟩
    refine ⟨(), _, rfl, sort_inW hr hb _ os, H _ os (List.mergeSort_perm _ _) ?_⟩
    have := List.pairwise_mergeSort (le := fun x y : Int => decide (x ≤ y)) (fun a b c h1 h2 => by simp at *; omega) (fun a b => by simp; omega) xs
    exact this.imp fun h => by simpa using h
end Go.Lift

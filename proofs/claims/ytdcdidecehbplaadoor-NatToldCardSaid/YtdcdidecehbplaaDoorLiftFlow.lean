/- Laws that the proof of this claim's statement leans on, each proved under the conditions that it states. -/
import Derived.Test.YtdcdidecehbplaaDoorLiftBuild
set_option linter.unusedVariables false
set_option linter.unusedSimpArgs false
namespace Go.Lift
open Go

def Frm.pick (L : Frm) : List Nat → Option Frm
  | [] => some []
  | t :: ts => match L.get t, Frm.pick L ts with
    | some v, some r => some ((t, v) :: r)
    | _, _ => none

/-- One way or the other. -/
def iteB (b : Bool) (x y : Prop) : Prop := (b = true → x) ∧ (b = false → y)

section
variable {P : Program} {T : TTab} {n : Nat} {L M : Frm} {h : Heap} {o : Oper} {w0 : World} {ops : Array Oper} {Q : Exit → Act → World → Prop}

theorem Frm.pick_sub : ∀ (ts : List Nat) (M : Frm), L.pick ts = some M → Frm.sub M L := by
  intro ts
  induction ts with
  | nil => intro M h; simp [Frm.pick] at h; subst h; trivial
  | cons t ts ih =>
    intro M h
    simp only [Frm.pick] at h
    split at h
    · rename_i v r h1 h2
      simp only [Option.some.injEq] at h; subst h
      exact ⟨h1, ih _ h2⟩
    · cases h

theorem AtE.pick {K : Act → World → Prop} {ts : List Nat} (H : AtE n w0 K M h) (hp : L.pick ts = some M) : AtE n w0 K L h := H.weaken (Frm.pick_sub _ _ hp)
theorem AtC.pick {c : Code} {ts : List Nat} (hp : L.pick ts = some M) (H : AtC P n w0 Q M h c) : AtC P n w0 Q L h c := H.weaken (Frm.pick_sub _ _ hp)
theorem AtL.pick {l : List Oper} {ts : List Nat} (hp : L.pick ts = some M) (H : AtL P n w0 ops Q M h l) : AtL P n w0 ops Q L h l := H.weaken (Frm.pick_sub _ _ hp)

theorem AtC.joinSeq {τ : Type} {m : (τ → Heap → Prop) → Prop} {k : τ → Heap → Prop} {x y : Code} {R : Frm} (Mt : τ → Frm) (ts : List Nat) (H : Lift.seq m k) (_hp : L.pick ts = some R)
    (hk : ∀ t h, k t h → AtC P n w0 Q (Mt t ++ R) h y)
    (hm : ∀ J : τ → Heap → Prop, m J → (∀ t h, J t h → AtE n w0 (y.wp P Q) (Mt t ++ R) h) → AtC P n w0 (Exit.then (y.wp P Q) Q) L h x) : AtC P n w0 Q L h (.seq x y) := by
  obtain ⟨J, h1, h2⟩ := H
  exact AtC.seq (hm J h1 fun t h hj => hk t h (h2 t h hj))

theorem AtC.loopM {σ : Type} {c : Code} {body : σ → Heap → (σ → Heap → Prop) → Prop} {s : σ} {R : Frm} (Mt : σ → Frm) (ts us : List Nat)
    (H : Lift.loop body s h) (_hp : L.pick ts = some R) (hs : L.pick us = some (Mt s ++ R))
    (round : ∀ (K : σ → Heap → Prop) s h, body s h K → ∀ Q' : Act → World → Prop, (∀ s h, K s h → AtE n w0 Q' (Mt s ++ R) h) → AtC P n w0 (Exit.then Q' Q) (Mt s ++ R) h c) :
    AtC P n w0 Q L h (.loop c) :=
  AtC.loop (fun s => Mt s ++ R) H (Frm.pick_sub _ _ hs) round

theorem AtE.then_n {K : Act → World → Prop} (H : AtE n w0 K L h) : AtE n w0 (Exit.then K Q .normal) L h := H
theorem AtE.then_x {K : Act → World → Prop} {i : Nat} (H : AtE n w0 (Q (.exit i)) L h) : AtE n w0 (Exit.then K Q (.exit i)) L h := H
theorem AtE.then_r {K : Act → World → Prop} (H : AtE n w0 (Q .ret) L h) : AtE n w0 (Exit.then K Q .ret) L h := H
theorem AtE.blk_hit {i : Nat} (H : AtE n w0 (Q .normal) L h) : AtE n w0 (Exit.inBlock i Q (.exit i)) L h := by
  intro a w ha hw hs
  simp only [Exit.inBlock, if_true]
  exact H a w ha hw hs
theorem AtE.blk_miss {i j : Nat} (hne : Nat.beq j i = false) (H : AtE n w0 (Q (.exit j)) L h) : AtE n w0 (Exit.inBlock i Q (.exit j)) L h := by
  intro a w ha hw hs
  have : j ≠ i := fun e => by subst e; simp at hne
  simp only [Exit.inBlock, if_neg this]
  exact H a w ha hw hs
theorem AtE.blk_n {i : Nat} (H : AtE n w0 (Q .normal) L h) : AtE n w0 (Exit.inBlock i Q .normal) L h := H
theorem AtE.blk_r {i : Nat} (H : AtE n w0 (Q .ret) L h) : AtE n w0 (Exit.inBlock i Q .ret) L h := H

theorem AtC.condB {c : Operand} {x y : Code} {b : Bool} {p q : Prop} (H : iteB b p q) (hb : L.ev c = some (.bool b)) (ht : p → AtC P n w0 Q L h x) (hf : q → AtC P n w0 Q L h y) :
    AtC P n w0 Q L h (.cond c x y) :=
  AtC.cond hb (fun e => ht (H.1 e)) (fun e => hf (H.2 e))
/-- A guard is asked: either way, the frame says so. -/
theorem AtL.splitB {l : List Oper} {t : Nat} {b : Bool} {p q : Prop} (H : iteB b p q) (hb : L.get t = some (.bool b))
    (ht : p → AtL P n w0 ops Q ((t, .bool true) :: L) h l) (hf : q → AtL P n w0 ops Q ((t, .bool false) :: L) h l) : AtL P n w0 ops Q L h l := by
  cases hbb : b
  · exact AtL.known hb hbb (hf (H.2 hbb))
  · exact AtL.known hb hbb (ht (H.1 hbb))

/-! ### Results -/
def resRun (a : Act) : ResultVar → Sem Value
  | .tmp t => pure (a.tmps.getD t undef)
  | .cell c t => do loadVar t (← asAddr (a.tmps.getD c undef))
def ResAt (P : Program) (n : Nat) (L : Frm) (h : Heap) (r : ResultVar) (v : Value) : Prop :=
  ∀ a w, Agree n L a → w.heap = h → (resRun a r).run P w = .ok v w
def ResAll (P : Program) (n : Nat) (L : Frm) (h : Heap) : List ResultVar → List Value → Prop
  | [], [] => True
  | r :: rs, v :: vs => ResAt P n L h r v ∧ ResAll P n L h rs vs
  | _, _ => False
theorem ResAt.tmp {t : Nat} {v : Value} (hv : L.get t = some v) : ResAt P n L h (.tmp t) v := by
  intro a w ha hw
  simp [resRun, ha.2.2 t v hv]
theorem ResAt.cell {c t : Nat} {ad : Addr} {v : Value} (hT : TTab.Ok P T) (hv : L.get c = some (.pointer (some ad))) (ht : nonAgg T t = true) (hc : cell? h ad = some v) : ResAt P n L h (.cell c t) v := by
  intro a w ha hw
  subst hw
  simp [resRun, ha.2.2 c _ hv, asAddr, loadVar, nonAgg_run hT ht, Result.andThen, run_load_at hc]
theorem ResAt.cellS {c t s : Nat} {ad : Addr} {l : List Value} (hT : TTab.Ok P T) (hv : L.get c = some (.pointer (some ad))) (ht : yesAgg T t = true) (hs : T.size t = some s) (hc : cells? h ad s 0 = some l) : ResAt P n L h (.cell c t) (.agg l.toArray) := by
  intro a w ha hw
  subst hw
  simp [resRun, ha.2.2 c _ hv, asAddr, loadVar, yesAgg_run hT ht, Result.andThen, TTab.size_run hT hs, run_loadCells hc]
theorem ResAll.nil : ResAll P n L h [] [] := trivial
theorem ResAll.cons {r : ResultVar} {v : Value} {rs : List ResultVar} {vs : List Value} (h1 : ResAt P n L h r v) (h2 : ResAll P n L h rs vs) : ResAll P n L h (r :: rs) (v :: vs) := ⟨h1, h2⟩

theorem ResAll.run {a : Act} {w : World} (ha : Agree n L a) (hw : w.heap = h) : ∀ (rs : List ResultVar) (vs : List Value), ResAll P n L h rs vs →
    (rs.mapM (resRun a)).run P w = .ok vs w := by
  intro rs
  induction rs with
  | nil => intro vs h; cases vs <;> simp_all [ResAll]
  | cons r rs ih =>
    intro vs h
    cases vs with
    | nil => simp [ResAll] at h
    | cons v vs =>
      obtain ⟨h1, h2⟩ := h
      have h1 := h1 a w ha hw
      have h2 := ih vs h2
      simp [List.mapM_cons, h1, h2, Result.andThen]

def oneOf : List Value → Value
  | [v] => v
  | vs => .tuple vs.toArray

theorem AtE.retN {α : Type} {toV : α → Value} {S : α → Heap → Prop} {fn : Func} {rs : List ResultVar} {vs : List Value} {r : α} (hr : fn.results = rs.toArray) (hres : ResAll P n L h rs vs) (he : toV r = oneOf vs) (hS : S r h) :
    AtE n w0 (bodyPost P fn (Post w0 toV S) .ret) L h := by
  intro a w ha hw hs
  refine bodyPost_ret (v := oneOf vs) ?_ ha.2.1 ⟨r, by rw [he], hs, by rw [hw]; exact hS⟩
  have := run_arrMapM _ rs.toArray vs (by simpa using ResAll.run ha hw rs vs hres)
  have e : results fn a.tmps = (do let vs ← fn.results.mapM (resRun a); pure (if h : vs.size = 1 then vs[0] else .tuple vs)) := by
    unfold results
    congr 1
  rw [e, hr]
  simp only [Sem.run_bind, this, Result.andThen_ok]
  cases vs with
  | nil => simp [oneOf]
  | cons v vs => cases vs <;> simp [oneOf]
theorem AtE.endN {α : Type} {toV : α → Value} {S : α → Heap → Prop} {fn : Func} {r : α} (hr : fn.results = #[]) (he : toV r = .tuple #[]) (hS : S r h) :
    AtE n w0 (bodyPost P fn (Post w0 toV S) .normal) L h := AtE.end0 hr he hS

/-! ### Regions whose order is open, all of whose operations only look -/
def AtD (P : Program) (n : Nat) (w0 : World) (ops : Array Oper) (Q : Exit → Act → World → Prop) (L : Frm) (h : Heap) (l : List Oper) : Prop :=
  ∀ a, Agree n L a → wpQuiet P ops (fun w => w.heap = h ∧ Same w0 w) (fun a' => ∀ w', (w'.heap = h ∧ Same w0 w') → Q .normal a' w') l a

theorem AtC.draw {id : Nat} {l : List Oper} (hm : P.follows .mixedOrders = true) (hB : Region.lexB .any l.toArray = true) (H : AtD P n w0 l.toArray Q L h l) : AtC P n w0 Q L h (.region id l.toArray true) := by
  intro a w ha hw hs
  exact wp_region_quiet (C := fun w => w.heap = h ∧ Same w0 w) hm hB ⟨hw, hs.os, hs.out, hs.tape⟩ (by simpa using H a ha)
theorem AtC.seqD {id : Nat} {l : List Oper} {y : Code} (hm : P.follows .mixedOrders = true) (hB : Region.lexB .any l.toArray = true) (H : AtD P n w0 l.toArray (Exit.then (y.wp P Q) Q) L h l) : AtC P n w0 Q L h (.seq (.region id l.toArray true) y) :=
  AtC.seq (AtC.draw hm hB H)
theorem AtD.nil (H : AtE n w0 (Q .normal) L h) : AtD P n w0 ops Q L h [] :=
  fun a ha => wpQuiet_nil fun w hw => H a w ha hw.1 hw.2
theorem AtD.q {v : Value} {l : List Oper} (hd : okDst o n = true) (hq : Quiet1 P n L h o v) (H : AtD P n w0 ops Q (L.put o.dst v) h l) : AtD P n w0 ops Q L h (o :: l) := by
  intro a ha
  obtain ⟨hg, hd⟩ := okDst_spec hd
  refine wpQuiet_step fun K hK => ?_
  rw [if_pos (by simp [Region.wanted, hg])]
  refine ⟨v, fun w hw => ?_, hK _ (H _ (ha.put hd))⟩
  unfold Oper.quietAt
  rw [hq a w ha hw.1]
  exact ⟨rfl, rfl⟩
theorem AtD.pures (hT : TTab.Ok P T) :
    ∀ (k : Nat) (L L' : Frm) (l l' : List Oper), runPure T n k L l = some (L', l') → AtD P n w0 ops Q L' h l' → AtD P n w0 ops Q L h l := by
  intro k
  induction k with
  | zero =>
    intro L L' l l' hr H
    simp only [runPure, Option.some.injEq, Prod.mk.injEq] at hr
    obtain ⟨rfl, rfl⟩ := hr
    exact H
  | succ k ih =>
    intro L L' l l' hr H
    cases l with
    | nil => simp [runPure] at hr
    | cons o l =>
      simp only [runPure] at hr
      split at hr
      · cases hr
      · rename_i hd
        split at hr
        · rename_i v hv
          exact AtD.q hd (Quiet1.pure hT hv) (ih _ _ _ _ hr H)
        · cases hr
theorem AtD.known {l : List Oper} {t : Nat} {b c : Bool} (hv : L.get t = some (.bool b)) (hb : b = c) (H : AtD P n w0 ops Q ((t, .bool c) :: L) h l) : AtD P n w0 ops Q L h l := by
  subst hb
  intro a ha
  refine H a ⟨ha.1, ha.2.1, fun u v hu => ?_⟩
  rw [Frm.get_cons] at hu
  by_cases e : t = u
  · subst e
    simp only [if_true, Option.some.injEq] at hu
    subst hu
    exact ha.2.2 _ _ hv
  · rw [if_neg e] at hu
    exact ha.2.2 _ _ hu
theorem AtD.splitB {l : List Oper} {t : Nat} {b : Bool} {p q : Prop} (H : iteB b p q) (hb : L.get t = some (.bool b))
    (ht : p → AtD P n w0 ops Q ((t, .bool true) :: L) h l) (hf : q → AtD P n w0 ops Q ((t, .bool false) :: L) h l) : AtD P n w0 ops Q L h l := by
  cases hbb : b
  · exact AtD.known hb hbb (hf (H.2 hbb))
  · exact AtD.known hb hbb (ht (H.1 hbb))
theorem AtD.skipIt {l : List Oper} {j : Nat} {c : Bool} (hg : o.guard = some (j, c)) (hd : okDst { o with guard := none } n = true) (hy : ∀ a, Agree n L a → yielded ops a.tmps j ≠ some c)
    (H : AtD P n w0 ops Q (L.put o.dst undef) h l) : AtD P n w0 ops Q L h (o :: l) := by
  intro a ha
  refine wpQuiet_step fun K hK => ?_
  have hw' : Region.wanted o (yielded ops a.tmps) = false := by
    unfold Region.wanted
    rw [hg]
    simpa using hy a ha
  rw [if_neg (by simp [hw'])]
  exact hK _ (H _ (ha.put (okDst_bare hd)))
theorem AtD.yes {l : List Oper} {t : Nat} {j : Nat} {c : Bool} (hg : o.guard = some (j, c)) (hj : (ops[j]?).bind (·.dst) = some t) (hv : L.get t = some (.bool c))
    (H : AtD P n w0 ops Q L h ({ o with guard := none } :: l)) : AtD P n w0 ops Q L h (o :: l) := by
  intro a ha
  have h1 := H a ha
  unfold wpQuiet at h1 ⊢
  have hy : yielded ops a.tmps j = some c := by
    unfold yielded
    simp [hj, ha.2.2 t _ hv]
  have hw' : Region.wanted o (yielded ops a.tmps) = true := by
    unfold Region.wanted
    rw [hg]
    simp [hy]
  rw [if_pos hw']
  rw [if_pos (by simp [Region.wanted])] at h1
  have hop : ∀ ρ, execOp ρ { o with guard := none } = execOp ρ o := fun ρ => rfl
  simpa [Oper.quiet, Oper.quietAt, hop] using h1
theorem AtL.noF {l : List Oper} {t j : Nat} {b c : Bool} (hg : o.guard = some (j, c)) (hj : (ops[j]?).bind (·.dst) = some t) (hv : L.get t = some (.bool b)) (hbc : b ≠ c)
    (hd : okDst { o with guard := none } n = true) (H : AtL P n w0 ops Q (L.put o.dst undef) h l) : AtL P n w0 ops Q L h (o :: l) := AtL.skipIt hg hd (yield_bool hj hv hbc) H
theorem AtD.noF {l : List Oper} {t j : Nat} {b c : Bool} (hg : o.guard = some (j, c)) (hj : (ops[j]?).bind (·.dst) = some t) (hv : L.get t = some (.bool b)) (hbc : b ≠ c)
    (hd : okDst { o with guard := none } n = true) (H : AtD P n w0 ops Q (L.put o.dst undef) h l) : AtD P n w0 ops Q L h (o :: l) := AtD.skipIt hg hd (yield_bool hj hv hbc) H
theorem AtL.noU {l : List Oper} {t j : Nat} {c : Bool} (hg : o.guard = some (j, c)) (hj : (ops[j]?).bind (·.dst) = some t) (hv : L.get t = some undef)
    (hd : okDst { o with guard := none } n = true) (H : AtL P n w0 ops Q (L.put o.dst undef) h l) : AtL P n w0 ops Q L h (o :: l) := AtL.skipIt hg hd (yield_undef hj hv) H
theorem AtD.noU {l : List Oper} {t j : Nat} {c : Bool} (hg : o.guard = some (j, c)) (hj : (ops[j]?).bind (·.dst) = some t) (hv : L.get t = some undef)
    (hd : okDst { o with guard := none } n = true) (H : AtD P n w0 ops Q (L.put o.dst undef) h l) : AtD P n w0 ops Q L h (o :: l) := AtD.skipIt hg hd (yield_undef hj hv) H
end
end Go.Lift

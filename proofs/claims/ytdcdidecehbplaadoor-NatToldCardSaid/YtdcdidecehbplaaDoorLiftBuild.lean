/- Laws that the proof of this claim's statement leans on, each proved under the conditions that it states. -/
import Derived.Test.YtdcdidecehbplaaDoorLiftMem
set_option linter.unusedVariables false
set_option linter.unusedSimpArgs false
namespace Go.Lift
open Go

def evParts (L : Frm) : List (Nat × Operand) → Option (List (Nat × Value))
  | [] => some []
  | (i, x) :: r => match L.ev x, evParts L r with
    | some v, some l => some ((i, v) :: l)
    | _, _ => none
def evArgs (L : Frm) : List Operand → Option (List Value)
  | [] => some []
  | x :: r => match L.ev x, evArgs L r with
    | some v, some l => some (v :: l)
    | _, _ => none
def placesOf (T : TTab) : List Field → Option (List (Nat × Nat))
  | [] => some []
  | f :: r => match T.size f.type, placesOf T r with
    | some s, some l => some ((f.offset, s) :: l)
    | _, _ => none

section
variable {P : Program} {T : TTab} {n : Nat} {L : Frm} {h : Heap} {o : Oper} {a : Act}

theorem evParts_spec (ha : Agree n L a) : ∀ (l : List (Nat × Operand)) (pv : List (Nat × Value)), evParts L l = some pv → l.map (fun (i, x) => (i, a.eval x)) = pv := by
  intro l
  induction l with
  | nil => intro pv h; simp [evParts] at h; subst h; rfl
  | cons p r ih =>
    intro pv h
    obtain ⟨i, x⟩ := p
    simp only [evParts] at h
    split at h
    · rename_i v l h1 h2
      simp only [Option.some.injEq] at h; subst h
      simp [ha.eval h1]
      have := ih _ h2
      simpa using this
    · cases h
theorem evArgs_spec (ha : Agree n L a) : ∀ (l : List Operand) (vs : List Value), evArgs L l = some vs → l.map a.eval = vs := by
  intro l
  induction l with
  | nil => intro pv h; simp [evArgs] at h; subst h; rfl
  | cons x r ih =>
    intro vs h
    simp only [evArgs] at h
    split at h
    · rename_i v l h1 h2
      simp only [Option.some.injEq] at h; subst h
      simp [ha.eval h1, ih _ h2]
    · cases h

theorem run_listMapM {α β : Type} {w : World} (f : α → Sem β) : ∀ (l : List α) (g : List β), l.length = g.length → (∀ i (h1 : i < l.length) (h2 : i < g.length), (f l[i]).run P w = .ok g[i] w) → (l.mapM f).run P w = .ok g w := by
  intro l
  induction l with
  | nil => intro g hl _; cases g <;> simp_all
  | cons x r ih =>
    intro g hl hf
    cases g with
    | nil => simp at hl
    | cons y g =>
      have h0 := hf 0 (by simp) (by simp)
      simp only [List.getElem_cons_zero] at h0
      have hr := ih g (by simpa using hl) (fun i h1 h2 => by
        have := hf (i + 1) (by simpa using h1) (by simpa using h2)
        simpa using this)
      simp [List.mapM_cons, h0, hr, Result.andThen]
theorem run_arrMapM {α β : Type} {w : World} (f : α → Sem β) (l : Array α) (g : List β) (h : (l.toList.mapM f).run P w = .ok g w) : (l.mapM f).run P w = .ok g.toArray w := by
  rw [Array.mapM_eq_mapM_toList]
  simp [h]

theorem places_run (hT : TTab.Ok P T) {w : World} : ∀ (l : List Field) (ps : List (Nat × Nat)), placesOf T l = some ps →
    (l.mapM (fun (f : Field) => (do return (f.offset, ← sizeOf f.type) : Sem (Nat × Nat)))).run P w = .ok ps w := by
  intro l
  induction l with
  | nil => intro ps h; simp [placesOf] at h; subst h; simp
  | cons f r ih =>
    intro ps h
    simp only [placesOf] at h
    split at h
    · rename_i s l h1 h2
      simp only [Option.some.injEq] at h; subst h
      have := ih _ h2
      simp only [bind_pure_comp] at this
      simp [List.mapM_cons, TTab.size_run hT h1, this]
    · cases h

theorem Quiet1.build {t : Nat} {parts : Array (Nat × Operand)} {fs : Array Field} {ps : List (Nat × Nat)} {z cs : List Value} {pv : List (Nat × Value)} (hT : TTab.Ok P T) (hop : o.op = .build t parts) (ht : T.desc t = some (.struct fs)) (hp : placesOf T fs.toList = some ps) (hz : T.zero t = some z)
    (hpv : evParts L parts.toList = some pv) (hf : Instr.fill (fun (i : Nat) => ps[i]?) z.toArray pv = some cs.toArray) : Quiet1 P n L h o (.agg cs.toArray) := by
  intro ac w ha hw
  obtain ⟨v, hv, hvc⟩ := TTab.zero_run hT hz w
  have hvc' : v.cells = z.toArray := by rw [← hvc]
  have e1 := evParts_spec ha _ _ hpv
  have e2 : (parts.map fun (i, x) => (i, ac.eval x)).toList = pv := by rw [Array.toList_map]; exact e1
  have hpl := run_arrMapM _ _ _ (places_run hT (w := w) _ _ hp)
  simp only [bind_pure_comp] at hpl
  have hps : (fun (i : Nat) => ps.toArray[i]?) = (fun (i : Nat) => ps[i]?) := by funext i; simp
  simp only [execOp, hop, Instr.build, Sem.run_bind, hv, Result.andThen_ok, TTab.desc_run hT ht]
  simp [hpl, Result.andThen, hvc', e1, hf]

theorem Quiet1.buildA {t len e sz : Nat} {parts : Array (Nat × Operand)} {z cs : List Value} {pv : List (Nat × Value)} (hT : TTab.Ok P T) (hop : o.op = .build t parts) (ht : T.desc t = some (.array len e)) (hs : T.size e = some sz) (hz : T.zero t = some z)
    (hpv : evParts L parts.toList = some pv) (hf : Instr.fill (fun i => some (i * sz, sz)) z.toArray pv = some cs.toArray) : Quiet1 P n L h o (.agg cs.toArray) := by
  intro ac w ha hw
  obtain ⟨v, hv, hvc⟩ := TTab.zero_run hT hz w
  have hvc' : v.cells = z.toArray := by rw [← hvc]
  have e1 := evParts_spec ha _ _ hpv
  simp only [execOp, hop, Instr.build, Sem.run_bind, hv, Result.andThen_ok, TTab.desc_run hT ht]
  simp [TTab.size_run hT hs, Result.andThen, hvc', e1, hf]

theorem Eff.buildS {t len e sz : Nat} {parts : Array (Nat × Operand)} {z cs : List Value} {pv : List (Nat × Value)} {k : Sl → Heap → Prop} (hT : TTab.Ok P T) (hop : o.op = .buildSlice t len parts) (ht : T.desc t = some (.slice e)) (hs : T.size e = some sz) (hz : T.zero e = some z) (hzl : z.length = sz) (hsmall : Nat.ble (len * sz) 16777216 = true)
    (hpv : evParts L parts.toList = some pv) (hf : Instr.fill (fun i => some (i * sz, sz)) (List.flatten (List.replicate len z)).toArray pv = some cs.toArray)
    (H : Lift.new cs h (fun a h' => k ⟨some a, len, len⟩ h')) : Eff P n L h o (fun u h' => ∃ r, u = Sl.toV r ∧ k r h') := by
  intro ac w ha hw next Q hn
  subst hw
  obtain ⟨v, hv, hvc⟩ := TTab.zero_run hT hz w
  have hvc' : v.cells = z.toArray := by rw [← hvc]
  have e1 := evParts_spec ha _ _ hpv
  have hsm : ¬ 16777216 < len * sz := by simpa using hsmall
  have hm := mapRange z len
  rw [hzl] at hm
  have : (execOp ac.eval o).run P w = .ok (.value (Sl.toV ⟨some ⟨w.heap.size, 0, none⟩, len, len⟩)) (w.alloc (.cells cs.toArray e (0, 0))) := by
    by_cases h0 : len * sz = 0
    · have hfl : List.flatten (List.replicate len z) = [] := by
        apply List.eq_nil_of_length_eq_zero
        rw [flat_len, hzl, h0]
      rw [hfl] at hf
      have hr : Array.range 0 = #[] := rfl
      simp only [execOp, hop, Instr.buildSlice, Sem.run_bind, TTab.desc_run hT ht, Result.andThen_ok]
      simp [TTab.size_run hT hs, Result.andThen, h0, hr, e1, hf, newRow, newObj, Sem.run, Sl.toV]
    · simp only [execOp, hop, Instr.buildSlice, Sem.run_bind, TTab.desc_run hT ht, Result.andThen_ok]
      simp at hm
      simp [TTab.size_run hT hs, Result.andThen, h0, hsm, hv, hvc', hm, e1, hf, newRow, newObj, Sem.run, Sl.toV]
  unfold Oper.wp
  rw [this]
  exact hn _ _ ⟨rfl, rfl, rfl⟩ ⟨_, rfl, H e⟩

/-- A field out of a value. -/
theorem Quiet1.field {t f off : Nat} {x : Operand} {fs : Array Field} {fl : Field} {cs : List Value} {v : Value} (hT : TTab.Ok P T) (hop : o.op = .field t x f) (ht : T.desc t = some (.struct fs)) (hf : fs.toList[f]? = some fl) (hoff : fl.offset = off) (hna : nonAgg T fl.type = true)
    (hx : L.ev x = some (.agg cs.toArray)) (hv : cs[off]? = some v) : Quiet1 P n L h o v := by
  intro ac w ha hw
  subst hoff
  simp only [Array.getElem?_toList] at hf
  simp [execOp, hop, ha.eval hx, Instr.field, Result.andThen, TTab.desc_run hT ht, hf, asAgg, part, nonAgg_run hT hna, hv]
theorem Quiet1.fieldS {t f : Nat} {x : Operand} {fs : Array Field} {fl : Field} {cs ds : List Value} {s : Nat} (hT : TTab.Ok P T) (hop : o.op = .field t x f) (ht : T.desc t = some (.struct fs)) (hf : fs.toList[f]? = some fl) (hna : yesAgg T fl.type = true) (hs : T.size fl.type = some s)
    (hx : L.ev x = some (.agg cs.toArray)) (hv : (cs.drop fl.offset).take s = ds) : Quiet1 P n L h o (.agg ds.toArray) := by
  intro ac w ha hw
  simp only [Array.getElem?_toList] at hf
  subst hv
  simp [execOp, hop, ha.eval hx, Instr.field, Result.andThen, TTab.desc_run hT ht, hf, asAgg, part, yesAgg_run hT hna, TTab.size_run hT hs]

/-- A call of a function of the program. -/
theorem Eff.call {α : Type} {f : FuncId} {args : Array Operand} {tys : Array TypeId} {vs : List Value} {toV : α → Value} {S : α → Heap → Prop}
    (hop : o.op = .call ⟨.value (.func f), args, tys⟩) (hcall : ∀ vs w, (callFunc f vs).run P w = .ok (.enter f vs) w)
    (hvs : evArgs L args.toList = some vs) (sh : Heap → Prop) (H0 : sh h) (hl : ∀ w, sh w.heap → Calls P f vs.toArray w (Post w toV S)) :
    Eff P n L h o (fun v h' => ∃ r, v = toV r ∧ S r h') := by
  intro ac w ha hw next Q hn
  have e1 := evArgs_spec ha _ _ hvs
  have e2 : args.map ac.eval = vs.toArray := by rw [← e1, ← Array.toList_map]
  have : (execOp ac.eval o).run P w = .ok (.enter f vs.toArray) w := by
    simp [execOp, hop, resolve, Deferred.ofValue, Act.eval, invoke, e2, hcall]
  unfold Oper.wp
  rw [this]
  refine (hl w (by rw [hw]; exact H0)).mono ?_
  rintro e w' ⟨r, rfl, hs, hS⟩
  exact hn _ _ hs ⟨r, rfl, hS⟩
end

/-! ### A run of plain operations at one go -/
def runPure (T : TTab) (n : Nat) : Nat → Frm → List Oper → Option (Frm × List Oper)
  | 0, L, l => some (L, l)
  | _ + 1, _, [] => none
  | k + 1, L, o :: l => match okDst o n with
    | false => none
    | true => match pureOp T L o.op with
      | some v => runPure T n k (L.put o.dst v) l
      | none => none

theorem AtL.pures {P : Program} {T : TTab} {n : Nat} {w0 : World} {ops : Array Oper} {Q : Exit → Act → World → Prop} {h : Heap} (hT : TTab.Ok P T) :
    ∀ (k : Nat) (L L' : Frm) (l l' : List Oper), runPure T n k L l = some (L', l') → AtL P n w0 ops Q L' h l' → AtL P n w0 ops Q L h l := by
  intro k
  induction k with
  | zero =>
    intro L L' l l' hr H
    simp only [runPure, Option.some.injEq, Prod.mk.injEq] at hr
    obtain ⟨rfl, rfl⟩ := hr
    exact H
  | succ k ih =>
    intro L L' l l' hr H
    cases l with
    | nil => simp [runPure] at hr
    | cons o l =>
      simp only [runPure] at hr
      split at hr
      · cases hr
      · rename_i hd
        split at hr
        · rename_i v hv
          exact AtL.q hd (Quiet1.pure hT hv) (ih _ _ _ _ hr H)
        · cases hr
end Go.Lift

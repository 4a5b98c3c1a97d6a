/-
  Laws that the proof of this claim's statement leans on, each proved under the conditions that it states.
-/
import Derived.Test.YtmcfhickfcmkkaaGreatDoorFwB
import Derived.Laws.StandIn
import Derived.Lib.Bytealg
import Derived.Scope
set_option linter.unusedVariables false
set_option linter.unusedSimpArgs false
namespace Go.Lift
open Go
def rC (o : Oper) : List Nat := o.after.toList.filterMap fun e => if Region.binds .any e then some e.on else none
def oN (ops : List Oper) (E : List Nat) (A G : List (List Nat)) : Bool :=
  (ops.zipIdx.all fun (o, i) => (G.getD i []).all fun j => (rC o).any fun x => x == j || (G.getD x []).contains j) &&
  (ops.zipIdx.all fun (o, i) =>
    (rC o).all (fun j => Nat.blt j i && (A.getD j []).all (fun e => (A.getD i []).contains e) && (!E.contains j || (A.getD i []).contains j)) &&
    (A.getD i []).all (fun e => E.contains e && (rC o).any (fun j => j == e || (A.getD j []).contains e)) &&
    (o.looksAt ops.toArray).all (fun t => ops.zipIdx.all fun (o', j) => !(o'.dst == some t) || ((rC o).contains j || (E.contains j && (G.getD j []).contains i)))) &&
  (ops.zipIdx.all fun (o, i) => match o.dst with
    | none => true
    | some d => ops.zipIdx.all fun (o', j) => i == j || !(o'.dst == some d)) &&
  (E.all fun e => Nat.blt e ops.length) && E.Nodup
section
variable {P : Program} {n : Nat} {B : Base} {Q : Exit → Act → World → Prop}
def amt (P : Program) (n : Nat) (ops : Array Oper) (M : Frm) (h : Hp) (o : Oper) (v : Value) : Prop :=
  ∀ a w, Agree n M a → Rel h w.heap →
    (Region.wanted o (yielded ops a.tmps) = true ∧ (execOp a.eval o).run P w = .ok (.value v) w) ∨ (Region.wanted o (yielded ops a.tmps) = false ∧ v = undef)
def okD (o : Oper) (n : Nat) : Bool := match o.dst with | some d => Nat.blt d n | none => true
def QOp (P : Program) (n : Nat) (ops : Array Oper) (g : Nat → Option Value) (h : Hp) (o : Oper) : Prop :=
  ∃ v M, (∀ t u, Frm.get M t = some u → g t = some u ∧ t ∈ o.looksAt ops) ∧ amt P n ops M h o v ∧ okD o n = true ∧ ∀ d, o.dst = some d → g d = some v
def EOp (P : Program) (n : Nat) (B : Base) (ops : Array Oper) (g : Nat → Option Value) (h : Hp) (o : Oper) (K : Value → Hp → Prop) : Prop :=
  ∃ M, (∀ t u, Frm.get M t = some u → g t = some u ∧ t ∈ o.looksAt ops) ∧ okD o n = true ∧
    ((o.guard = none ∧ Eff P n B M h o K) ∨
     ((∀ a, Agree n M a → Region.wanted o (yielded ops a.tmps) = true) ∧ Eff P n B M h { o with guard := none } K) ∨
     ((∀ a, Agree n M a → Region.wanted o (yielded ops a.tmps) = false) ∧ K undef h))
def Fin (n : Nat) (B : Base) (Q : Exit → Act → World → Prop) (g : Nat → Option Value) (h : Hp) : Prop :=
  ∀ a w, a.tmps.size = n → a.defers = [] → (∀ t v, g t = some v → a.tmps[t]? = some v) → InW B h w → Q .normal a w
def Stg (P : Program) (n : Nat) (B : Base) (Q : Exit → Act → World → Prop) (ops : List Oper) (E : List Nat) (A G : List (List Nat)) : Nat → List Nat → (Nat → Option Value) → Hp → Prop
  | 0, D, g, h => (∀ (i : Nat) (o : Oper), ops[i]? = some o → i ∉ E → (∀ e ∈ A.getD i [], e ∈ D) → (∀ e ∈ D, i ∉ G.getD e []) → QOp P n ops.toArray g h o) ∧ (∀ e ∈ E, e ∈ D) ∧ Fin n B Q g h
  | k + 1, D, g, h => (∀ (i : Nat) (o : Oper), ops[i]? = some o → i ∉ E → (∀ e ∈ A.getD i [], e ∈ D) → (∀ e ∈ D, i ∉ G.getD e []) → QOp P n ops.toArray g h o) ∧
      ∀ (e : Nat) (o : Oper), ops[e]? = some o → e ∈ E → e ∉ D → (∀ x ∈ A.getD e [], x ∈ D) →
        EOp P n B ops.toArray g h o (fun v h' => ∃ g', (∀ t, (∀ (j : Nat) (o' : Oper), ops[j]? = some o' → o'.dst = some t → j ≠ e ∧ (j ∈ E ∨ e ∉ A.getD j [])) → g' t = g t) ∧ (∀ d, o.dst = some d → g' d = some v) ∧
          Stg P n B Q ops E A G k (e :: D) g' h')
structure Mid (n : Nat) (ops : List Oper) (E : List Nat) (A : List (List Nat)) (listed : Array Bool) (D : List Nat) (g : Nat → Option Value) (a : Act) : Prop where
  size : listed.size = ops.length
  down : ∀ (i : Nat) (o : Oper), ops[i]? = some o → listed.getD i true = true → ∀ j ∈ rC o, listed.getD j true = true
  doneE : ∀ e ∈ E, (e ∈ D ↔ listed.getD e true = true)
  sub : ∀ e ∈ D, e ∈ E
  anc : ∀ (i : Nat) (o : Oper), ops[i]? = some o → listed.getD i true = true → ∀ e ∈ A.getD i [], e ∈ D
  tmps : a.tmps.size = n
  defers : a.defers = []
  vals : ∀ t v, g t = some v → (∀ (j : Nat) (o : Oper), ops[j]? = some o → o.dst = some t → j ∉ E → listed.getD j true = true) → a.tmps[t]? = some v
theorem fc {ops : List Oper} {E : List Nat} {A G : List (List Nat)} (h : oN ops E A G = true) :
    (∀ (i : Nat) (o : Oper), ops[i]? = some o → ∀ j ∈ G.getD i [], ∃ x ∈ rC o, x = j ∨ j ∈ G.getD x []) ∧
    (∀ (i : Nat) (o : Oper), ops[i]? = some o → ∀ j ∈ rC o, j < i ∧ (∀ e ∈ A.getD j [], e ∈ A.getD i []) ∧ (j ∈ E → j ∈ A.getD i [])) ∧
    (∀ (i : Nat) (o : Oper), ops[i]? = some o → ∀ e ∈ A.getD i [], e ∈ E ∧ ∃ j ∈ rC o, j = e ∨ e ∈ A.getD j []) ∧
    (∀ (i : Nat) (o : Oper), ops[i]? = some o → ∀ t ∈ o.looksAt ops.toArray, ∀ (j : Nat) (o' : Oper), ops[j]? = some o' → o'.dst = some t → j ∈ rC o ∨ j ∈ E) ∧
    (∀ (i : Nat) (o : Oper) (d : Nat), ops[i]? = some o → o.dst = some d → ∀ (j : Nat) (o' : Oper), ops[j]? = some o' → o'.dst = some d → i = j) ∧
    (∀ e ∈ E, e < ops.length) ∧ E.Nodup := by
  unfold oN at h
  simp only [Bool.and_eq_true, List.all_eq_true, List.any_eq_true, Nat.blt_eq, decide_eq_true_eq, Bool.or_eq_true, Bool.not_eq_true', List.contains_iff_mem, beq_iff_eq] at h
  obtain ⟨⟨⟨⟨h0, h1⟩, h2⟩, h3⟩, h4⟩ := h
  have mem : ∀ {i : Nat} {o : Oper}, ops[i]? = some o → (o, i) ∈ ops.zipIdx := by
    intro i o ho
    rw [List.mem_zipIdx_iff_getElem?]
    exact ho
  refine ⟨?_, ?_, ?_, ?_, ?_, fun e he => h3 e he, h4⟩
  · intro i o ho j hj
    exact h0 _ (mem ho) j hj
  · intro i o ho j hj
    obtain ⟨⟨hlt, hsub⟩, hE⟩ := (h1 _ (mem ho)).1.1 j hj
    refine ⟨hlt, hsub, fun hje => ?_⟩
    rcases hE with h | h
    · simp [hje] at h
    · exact h
  · intro i o ho e he
    obtain ⟨hE, j, hj, hje⟩ := (h1 _ (mem ho)).1.2 e he
    exact ⟨hE, j, hj, hje⟩
  · intro i o ho t ht j o' ho' hd
    have := (h1 _ (mem ho)).2 t ht _ (mem ho')
    rcases this with h | h | h
    · simp [hd] at h
    · exact .inl h
    · exact .inr h.1
  · intro i o d ho hd j o' ho' hd'
    have := h2 _ (mem ho)
    simp only [hd] at this
    simp only [List.all_eq_true, Bool.or_eq_true, beq_iff_eq, Bool.not_eq_true'] at this
    rcases this _ (mem ho') with h | h
    · exact h
    · simp [hd'] at h
theorem rD {l : Array Bool} {i : Nat} (h : i < l.size) : (l.setIfInBounds i true).getD i true = true := by
  simp [Array.getElem?_setIfInBounds, h]
theorem eR {l : Array Bool} {i j : Nat} (h : i ≠ j) : (l.setIfInBounds i true).getD j true = l.getD j true := by
  simp [Array.getElem?_setIfInBounds_ne h]
def kJ (listed : Array Bool) : Nat := (listed.toList.filter (fun b => !b)).length
theorem acM : ∀ (l : List Bool) (i : Nat), l[i]? = some false → ((l.set i true).filter (fun b => !b)).length + 1 = (l.filter (fun b => !b)).length := by
  intro l
  induction l with
  | nil => intro i h; simp at h
  | cons b l ih =>
    intro i h
    cases i with
    | zero => simp at h; subst h; simp
    | succ i =>
      simp at h
      have := ih i h
      cases b <;> simp [List.set_cons_succ, List.filter_cons] <;> omega
theorem acO (ops : List Oper) (E : List Nat) (A G : List (List Nat)) (hB : oN ops E A G = true) :
    ∀ (fuel : Nat) (listed : Array Bool) (k : Nat) (D : List Nat) (g : Nat → Option Value) (h : Hp) (a : Act) (w : World),
      kJ listed = fuel → k + D.length = E.length → D.Nodup → Mid n ops E A listed D g a → InW B h w → Stg P n B Q ops E A G k D g h → wpAny P .any ops.toArray Q fuel listed a w := by
  obtain ⟨B0, B1, B1a, B2, B3, B4, B5⟩ := fc hB
  intro fuel
  induction fuel with
  | zero =>
    intro listed k D g h a w hf hk hnd hm hw hst
    have hall : ∀ i, listed.getD i true = true := by
      intro i
      rcases Nat.lt_or_ge i listed.size with hlt | hge
      · have hx : ¬ (false ∈ listed.toList) := by
          intro hmem
          have : (listed.toList.filter (fun b => !b)) ≠ [] := by
            intro he
            have := List.filter_eq_nil_iff.1 he false hmem
            simp at this
          unfold kJ at hf
          exact this (List.eq_nil_of_length_eq_zero hf)
        cases hb : listed[i] with
        | true => simp [hlt, hb]
        | false => exact absurd (by rw [← hb]; exact Array.getElem_mem_toList hlt) hx
      · simp [Array.getElem?_eq_none hge]
    have hready : Region.ready .any ops.toArray listed = [] := by
      unfold Region.ready
      rw [List.filter_eq_nil_iff]
      intro i _
      simp [hall i]
    have hkz : k = 0 := by
      have hED : ∀ e ∈ E, e ∈ D := fun e he => (hm.doneE e he).2 (hall e)
      have h1 : E.length ≤ D.length := by
        have := List.Nodup.length_le_of_subset B5 hED
        exact this
      omega
    subst hkz
    refine ⟨hready, ?_⟩
    obtain ⟨_, _, hfin⟩ := hst
    exact hfin a w hm.tmps hm.defers (fun t v hv => hm.vals t v hv (fun j o _ _ _ => hall j)) hw
  | succ fuel ih =>
    intro listed k D g h a w hf hk hnd hm hw hst
    constructor
    · -- none is ready: then all are listed; but one is not
      intro hr
      exfalso
      have hex : ∃ i, i < listed.size ∧ listed.getD i true = false := by
        unfold kJ at hf
        have hne : (listed.toList.filter (fun b => !b)) ≠ [] := by intro he; rw [he] at hf; simp at hf
        obtain ⟨b, hb⟩ := List.exists_mem_of_ne_nil _ hne
        rw [List.mem_filter] at hb
        obtain ⟨i, hi, hbi⟩ := List.getElem_of_mem hb.1
        have hb2 : b = false := by simpa using hb.2
        refine ⟨i, by simpa using hi, ?_⟩
        have hi' : i < listed.size := by simpa using hi
        simp [hi']
        simp at hbi
        rw [hbi, hb2]
      have hleast : ∃ i, i < listed.size ∧ listed.getD i true = false ∧ ∀ j, j < i → listed.getD j true = true := by
        obtain ⟨i, hi⟩ := hex
        induction i using Nat.strongRecOn with
        | _ i ih2 =>
          by_cases hc : ∃ j, j < i ∧ listed.getD j true = false
          · obtain ⟨j, hji, hj⟩ := hc
            exact ih2 j hji ⟨by omega, hj⟩
          · refine ⟨i, hi.1, hi.2, fun j hj => ?_⟩
            cases hb : listed.getD j true with
            | true => rfl
            | false => exact absurd ⟨j, hj, hb⟩ hc
      obtain ⟨i, hi1, hi2, hi3⟩ := hleast
      have hio : ∃ o, ops[i]? = some o := by
        have : i < ops.length := by rw [← hm.size]; exact hi1
        exact ⟨ops[i], List.getElem?_eq_getElem this⟩
      obtain ⟨o, ho⟩ := hio
      have : i ∈ Region.ready .any ops.toArray listed := by
        unfold Region.ready
        rw [List.mem_filter]
        refine ⟨by simp; rw [← hm.size]; exact hi1, ?_⟩
        simp only [hi2, Bool.not_false, Bool.true_and]
        simp only [List.getElem?_toArray, ho, Option.map_some, Option.getD_some, Array.all_eq_true_iff_forall_mem, Bool.or_eq_true, Bool.not_eq_true']
        intro e he
        by_cases hb : Region.binds .any e = true
        · right
          have hj : e.on ∈ rC o := by
            unfold rC
            rw [List.mem_filterMap]
            exact ⟨e, by simpa using he, by simp [hb]⟩
          have hlt := (B1 i o ho e.on hj).1
          have := hi3 e.on hlt
          have hlt2 : e.on < listed.size := by omega
          simp [hlt2] at this ⊢
          exact this
        · left; simpa using hb
      rw [hr] at this
      cases this
    · intro i hi
      unfold Region.ready at hi
      rw [List.mem_filter] at hi
      obtain ⟨hi0, hi1⟩ := hi
      have hilt : i < ops.length := by simpa using hi0
      simp only [Bool.and_eq_true, Bool.not_eq_true'] at hi1
      obtain ⟨hun, hpre⟩ := hi1
      obtain ⟨o, ho⟩ : ∃ o, ops[i]? = some o := ⟨ops[i], List.getElem?_eq_getElem hilt⟩
      simp only [List.getElem?_toArray, ho, Option.map_some, Option.getD_some, Array.all_eq_true_iff_forall_mem, Bool.or_eq_true, Bool.not_eq_true'] at hpre
      have hpreds : ∀ j ∈ rC o, listed.getD j true = true := by
        intro j hj
        unfold rC at hj
        rw [List.mem_filterMap] at hj
        obtain ⟨e, he, hej⟩ := hj
        by_cases hb : Region.binds .any e = true
        · simp [hb] at hej
          subst hej
          rcases hpre e (by simpa using he) with h | h
          · simp [hb] at h
          · have hlt : e.on < listed.size := by
              rcases Nat.lt_or_ge e.on listed.size with h' | h'
              · exact h'
              · simp [Array.getElem?_eq_none h'] at h
            simp [hlt] at h ⊢
            exact h
        · simp [hb] at hej
      have hislt : i < listed.size := by rw [hm.size]; exact hilt
      have hanc : ∀ x ∈ A.getD i [], True := fun _ _ => trivial
      have hunl : listed.toList[i]? = some false := by
        simp [hislt] at hun ⊢
        exact hun
      have hf' : kJ (listed.setIfInBounds i true) = fuel := by
        unfold kJ at hf ⊢
        have := acM listed.toList i hunl
        simp at this ⊢
        omega
      have hdown : ∀ j o', ops[j]? = some o' → (listed.setIfInBounds i true).getD j true = true → ∀ x ∈ rC o', (listed.setIfInBounds i true).getD x true = true := by
        intro j o' ho' hj x hx
        by_cases e : i = j
        · subst e
          rw [ho] at ho'
          cases ho'
          by_cases e2 : i = x
          · subst e2; exact rD hislt
          · rw [eR e2]; exact hpreds x hx
        · rw [eR e] at hj
          by_cases e2 : i = x
          · subst e2; exact rD hislt
          · rw [eR e2]; exact hm.down j o' ho' hj x hx
      have ago : ∀ M : Frm, (∀ t u, Frm.get M t = some u → g t = some u ∧ t ∈ o.looksAt ops.toArray) → Agree n M a := by
        intro M hM
        refine ⟨hm.tmps, hm.defers, fun t v hv => ?_⟩
        obtain ⟨h1, h2⟩ := hM t v hv
        refine hm.vals t v h1 fun j o' hj hd hjE => ?_
        rcases B2 i o ho t h2 j o' hj hd with h | h
        · exact hpreds j h
        · exact absurd h hjE
      unfold wpOp
      simp only [List.getElem?_toArray, ho]
      have hAi : ∀ x ∈ A.getD i [], x ∈ D := by
        intro x hx
        obtain ⟨hxE, j, hj, hje⟩ := B1a i o ho x hx
        rcases hje with rfl | hje
        · exact (hm.doneE _ hxE).2 (hpreds _ hj)
        · have hjlt : j < ops.length := Nat.lt_trans (B1 i o ho j hj).1 hilt
          exact hm.anc j ops[j] (List.getElem?_eq_getElem hjlt) (hpreds j hj) x hje
      have hsize' : (listed.setIfInBounds i true).size = ops.length := by simpa using hm.size
      have tput : ∀ (v : Value) (t : Nat), okD o n = true → (a.put o.dst v).tmps[t]? = if o.dst = some t then some v else a.tmps[t]? := by
        intro v t hd
        cases hdd : o.dst with
        | none => simp [Act.put]
        | some d =>
          have hdn : d < a.tmps.size := by
            unfold okD at hd; rw [hdd] at hd; rw [hm.tmps]; simpa using hd
          by_cases e : d = t
          · subst e; simp [Act.put, hdn]
          · simp [Act.put, Array.getElem?_setIfInBounds_ne e, e]
      have hputn : ∀ v, (a.put o.dst v).tmps.size = n := fun v => by cases o.dst <;> simp [Act.put, hm.tmps]
      have hputd : ∀ v, (a.put o.dst v).defers = [] := fun v => by cases o.dst <;> simp [Act.put, hm.defers]
      by_cases hiE : i ∈ E
      · -- it does something
        have hiD : i ∉ D := fun hd => by
          have := (hm.doneE i hiE).1 hd
          rw [this] at hun; cases hun
        have hlen : D.length + 1 ≤ E.length := by
          have : (i :: D).Nodup := List.nodup_cons.2 ⟨hiD, hnd⟩
          have := List.Nodup.length_le_of_subset this (l₂ := E) (by
            intro x hx
            rcases List.mem_cons.1 hx with rfl | hx
            · exact hiE
            · exact hm.sub x hx)
          simpa using this
        obtain ⟨k', rfl⟩ : ∃ k', k = k' + 1 := ⟨k - 1, by omega⟩
        obtain ⟨_, heff⟩ := hst
        obtain ⟨M, hM, hd, hcase⟩ := heff i o ho hiE hiD hAi
        have haM := ago M hM
        have next : ∀ v w' h', InW B h' w' → (∃ g', (∀ t, (∀ (j : Nat) (o' : Oper), ops[j]? = some o' → o'.dst = some t → j ≠ i ∧ (j ∈ E ∨ i ∉ A.getD j [])) → g' t = g t) ∧ (∀ d, o.dst = some d → g' d = some v) ∧
          Stg P n B Q ops E A G k' (i :: D) g' h') → wpAny P .any ops.toArray Q fuel (listed.setIfInBounds i true) (a.put o.dst v) w' := by
          rintro v w' h' hsw ⟨g', hext, hgd, hst'⟩
          refine ih _ k' (i :: D) g' h' _ _ hf' (by simp; omega) (List.nodup_cons.2 ⟨hiD, hnd⟩) ?_ hsw hst'
          refine ⟨hsize', hdown, ?_, ?_, ?_, hputn v, hputd v, ?_⟩
          · intro e heE
            by_cases e1 : i = e
            · subst e1; simp [rD hislt]
            · rw [eR e1, ← hm.doneE e heE]
              simp [Ne.symm e1]
          · intro e he
            rcases List.mem_cons.1 he with rfl | he
            · exact hiE
            · exact hm.sub e he
          · intro j o' hj hl e he
            by_cases e1 : i = j
            · subst e1; exact List.mem_cons_of_mem _ (hAi e he)
            · rw [eR e1] at hl
              exact List.mem_cons_of_mem _ (hm.anc j o' hj hl e he)
          · intro t u htu hprod
            rw [tput v t hd]
            by_cases e1 : o.dst = some t
            · rw [if_pos e1]
              rw [hgd t e1] at htu
              exact htu
            · rw [if_neg e1]
              have hold : ∀ (j : Nat) (o' : Oper), ops[j]? = some o' → o'.dst = some t → j ∉ E → listed.getD j true = true := by
                intro j o' hj hdj hjE
                have := hprod j o' hj hdj hjE
                by_cases e2 : i = j
                · subst e2; rw [ho] at hj; cases hj; exact absurd hdj e1
                · rwa [eR e2] at this
              rw [hext t (fun j o' hj hdj => ⟨fun e2 => by subst e2; rw [ho] at hj; cases hj; exact e1 hdj, Classical.byCases (fun hjE : j ∈ E => .inl hjE) (fun hjE => .inr fun hij => hiD (hm.anc j o' hj (hold j o' hj hdj hjE) i hij))⟩)] at htu
              exact hm.vals t u htu hold
        rcases hcase with ⟨hg, heff⟩ | ⟨hwant, heff⟩ | ⟨hno, hK⟩
        · rw [if_pos (by simp [Region.wanted, hg])]
          exact .inl (heff a w haM hw _ _ next)
        · rw [if_pos (hwant a haM)]
          left
          have := heff a w haM hw (wpAny P .any ops.toArray Q fuel (listed.setIfInBounds i true)) Q next
          exact this
        · rw [if_neg (by simp [hno a haM])]
          exact next undef w h hw hK
      · -- it looks
        have gone : ∀ (m : Nat) (o' : Oper), ops[m]? = some o' → listed.getD m true = true → ∀ j ∈ G.getD m [], listed.getD j true = true := by
          intro m
          induction m using Nat.strongRecOn with
          | _ m ih2 =>
            intro o' ho' hl j hj
            obtain ⟨x, hx, hxj⟩ := B0 m o' ho' j hj
            have hxl := hm.down m o' ho' hl x hx
            rcases hxj with rfl | hxj
            · exact hxl
            · have hxm := (B1 m o' ho' x hx).1
              have hml : m < ops.length := by
                rcases Nat.lt_or_ge m ops.length with h | h
                · exact h
                · rw [List.getElem?_eq_none h] at ho'; cases ho'
              have hxl2 : x < ops.length := Nat.lt_trans hxm hml
              exact ih2 x hxm (ops[x]'hxl2) (List.getElem?_eq_getElem hxl2) hxl j hxj
        have hG : ∀ e ∈ D, i ∉ G.getD e [] := by
          intro e heD hie
          have heE := hm.sub e heD
          have := gone e (ops[e]'(B4 e heE)) (List.getElem?_eq_getElem (B4 e heE)) ((hm.doneE e heE).1 heD) i hie
          rw [this] at hun; cases hun
        have hq : QOp P n ops.toArray g h o := by
          cases k with
          | zero => exact hst.1 i o ho hiE hAi hG
          | succ k => exact hst.1 i o ho hiE hAi hG
        obtain ⟨v, M, hM, hy, hd, hgd⟩ := hq
        have next : wpAny P .any ops.toArray Q fuel (listed.setIfInBounds i true) (a.put o.dst v) w := by
          refine ih _ k D g h _ _ hf' hk hnd ?_ hw hst
          refine ⟨hsize', hdown, ?_, hm.sub, ?_, hputn v, hputd v, ?_⟩
          · intro e heE
            have e1 : i ≠ e := fun e1 => hiE (e1 ▸ heE)
            rw [eR e1, ← hm.doneE e heE]
          · intro j o' hj hl e he
            by_cases e1 : i = j
            · subst e1; exact hAi e he
            · rw [eR e1] at hl
              exact hm.anc j o' hj hl e he
          · intro t u htu hprod
            rw [tput v t hd]
            by_cases e1 : o.dst = some t
            · rw [if_pos e1]
              rw [hgd t e1] at htu
              exact htu
            · rw [if_neg e1]
              refine hm.vals t u htu (fun j o' hj hdj hjE => ?_)
              have := hprod j o' hj hdj hjE
              by_cases e2 : i = j
              · subst e2; rw [ho] at hj; cases hj; exact absurd hdj e1
              · rwa [eR e2] at this
        rcases hy a w (ago M hM) hw.rel with ⟨hwant, hrun⟩ | ⟨hno, rfl⟩
        · rw [if_pos hwant]
          left
          unfold Oper.wp
          rw [hrun]
          exact next
        · rw [if_neg (by simp [hno])]
          exact next
def Frm.only (V : Frm) : List Nat → Frm
  | [] => []
  | t :: ts => match V.get t with
    | some v => (t, v) :: Frm.only V ts
    | none => Frm.only V ts
theorem Frm.only_get {V : Frm} : ∀ (ts : List Nat) (t : Nat) (u : Value), (V.only ts).get t = some u → V.get t = some u ∧ t ∈ ts := by
  intro ts
  induction ts with
  | nil => intro t u h; simp [Frm.only, Frm.get] at h
  | cons x ts ih =>
    intro t u h
    simp only [Frm.only] at h
    split at h
    · rename_i v hv
      rw [Frm.get_cons] at h
      by_cases e : x = t
      · subst e
        simp only [if_true] at h
        cases h
        exact ⟨hv, List.mem_cons_self ..⟩
      · rw [if_neg e] at h
        obtain ⟨h1, h2⟩ := ih t u h
        exact ⟨h1, List.mem_cons_of_mem _ h2⟩
    · obtain ⟨h1, h2⟩ := ih t u h
      exact ⟨h1, List.mem_cons_of_mem _ h2⟩
def Frm.getO (V : Frm) (d : Option Nat) (v : Value) : Option Value := match d with | some d => V.get d | none => some v
theorem Frm.getO_spec {V : Frm} {d : Option Nat} {v : Value} (h : V.getO d v = some v) : ∀ t, d = some t → V.get t = some v := by
  intro t ht; subst ht; exact h
def qAt (P : Program) (n : Nat) (ops : List Oper) (V : Frm) (h : Hp) (i : Nat) : Prop := match ops[i]? with
  | some o => QOp P n ops.toArray V.get h o
  | none => True
def QAll (P : Program) (n : Nat) (ops : List Oper) (V : Frm) (h : Hp) : List Nat → Prop
  | [] => True
  | i :: r => qAt P n ops V h i ∧ QAll P n ops V h r
theorem QAll.nil {ops : List Oper} {V : Frm} {h : Hp} : QAll P n ops V h [] := trivial
theorem QAll.cons {ops : List Oper} {V : Frm} {h : Hp} {i : Nat} {r : List Nat} (h1 : qAt P n ops V h i) (h2 : QAll P n ops V h r) : QAll P n ops V h (i :: r) := ⟨h1, h2⟩
theorem QAll.get {ops : List Oper} {V : Frm} {h : Hp} : ∀ {l : List Nat}, QAll P n ops V h l → ∀ i ∈ l, qAt P n ops V h i := by
  intro l
  induction l with
  | nil => intro _ i hi; cases hi
  | cons x l ih =>
    intro hq i hi
    rcases List.mem_cons.1 hi with rfl | hi
    · exact hq.1
    · exact ih hq.2 i hi
def ajJ (ops : List Oper) (E : List Nat) (A G : List (List Nat)) (D : List Nat) : List Nat := (List.range ops.length).filter fun i => !E.contains i && ((A.getD i []).all fun e => D.contains e) && D.all fun e => !(G.getD e []).contains i
def aj9 (E : List Nat) (A : List (List Nat)) (D : List Nat) : List Nat := E.filter fun e => !D.contains e && (A.getD e []).all fun x => D.contains x
def ru (P : Program) (n : Nat) (B : Base) (Q : Exit → Act → World → Prop) (ops : List Oper) (E : List Nat) (A G : List (List Nat)) (k : Nat) (D : List Nat) (V : Frm) (e : Nat) (o : Oper) (v : Value) (h' : Hp) : Prop :=
  ∃ g', (∀ t, (∀ (j : Nat) (o' : Oper), ops[j]? = some o' → o'.dst = some t → j ≠ e ∧ (j ∈ E ∨ e ∉ A.getD j [])) → g' t = V.get t) ∧ (∀ d, o.dst = some d → g' d = some v) ∧
          Stg P n B Q ops E A G k (e :: D) g' h'
def eAt (P : Program) (n : Nat) (B : Base) (Q : Exit → Act → World → Prop) (ops : List Oper) (E : List Nat) (A G : List (List Nat)) (k : Nat) (D : List Nat) (V : Frm) (h : Hp) (e : Nat) : Prop := match ops[e]? with
  | some o => EOp P n B ops.toArray V.get h o (ru P n B Q ops E A G k D V e o)
  | none => True
def EAll (P : Program) (n : Nat) (B : Base) (Q : Exit → Act → World → Prop) (ops : List Oper) (E : List Nat) (A G : List (List Nat)) (k : Nat) (D : List Nat) (V : Frm) (h : Hp) : List Nat → Prop
  | [] => True
  | e :: r => eAt P n B Q ops E A G k D V h e ∧ EAll P n B Q ops E A G k D V h r
theorem adP {ops : List Oper} {E : List Nat} {A G : List (List Nat)} {D : List Nat} {i : Nat} {o : Oper} (ho : ops[i]? = some o) (hE : i ∉ E) (hA : ∀ e ∈ A.getD i [], e ∈ D) (hG : ∀ e ∈ D, i ∉ G.getD e []) : i ∈ ajJ ops E A G D := by
  unfold ajJ
  rw [List.mem_filter]
  have hlt : i < ops.length := by
    rcases Nat.lt_or_ge i ops.length with h | h
    · exact h
    · rw [List.getElem?_eq_none h] at ho; cases ho
  refine ⟨by simpa using hlt, ?_⟩
  simp only [Bool.and_eq_true, List.all_eq_true, List.contains_iff_mem, Bool.not_eq_true']
  refine ⟨⟨?_, hA⟩, fun e he => ?_⟩
  case refine_2 =>
    cases hc : (G.getD e []).contains i
    · rfl
    · exact absurd (List.contains_iff_mem.1 hc) (hG e he)
  cases hc : E.contains i
  · rfl
  · exact absurd (List.contains_iff_mem.1 hc) hE
theorem Stg.fin {ops : List Oper} {E : List Nat} {A G : List (List Nat)} {D : List Nat} {V : Frm} {h : Hp} (qs : List Nat) (hqs : ajJ ops E A G D = qs) (hD : (E.all fun e => D.contains e) = true) (hq : QAll P n ops V h qs) (H : AtE n B (Q .normal) V h) :
    Stg P n B Q ops E A G 0 D V.get h := by
  refine ⟨fun i o ho hE hA hG => ?_, fun e he => ?_, fun a w h1 h2 h3 h4 => H a w ⟨h1, h2, h3⟩ h4⟩
  · have := hq.get i (hqs ▸ adP ho hE hA hG)
    unfold qAt at this
    rw [ho] at this
    exact this
  · simp only [List.all_eq_true, List.contains_iff_mem] at hD
    exact hD e he
theorem Stg.go {ops : List Oper} {E : List Nat} {A G : List (List Nat)} {D : List Nat} {V : Frm} {h : Hp} {k : Nat} (qs es : List Nat) (hqs : ajJ ops E A G D = qs) (hes : aj9 E A D = es) (hq : QAll P n ops V h qs) (he : EAll P n B Q ops E A G k D V h es) :
    Stg P n B Q ops E A G (k + 1) D V.get h := by
  refine ⟨fun i o ho hE hA hG => ?_, fun e o ho heE heD hA => ?_⟩
  · have := hq.get i (hqs ▸ adP ho hE hA hG)
    unfold qAt at this
    rw [ho] at this
    exact this
  · have hmem : e ∈ es := by
      rw [← hes]
      unfold aj9
      rw [List.mem_filter]
      refine ⟨heE, ?_⟩
      simp only [Bool.and_eq_true, List.all_eq_true, List.contains_iff_mem, Bool.not_eq_true']
      refine ⟨?_, hA⟩
      cases hc : D.contains e
      · rfl
      · exact absurd (List.contains_iff_mem.1 hc) heD
    have key : ∀ l : List Nat, EAll P n B Q ops E A G k D V h l → ∀ i ∈ l, eAt P n B Q ops E A G k D V h i := by
      intro l
      induction l with
      | nil => intro _ i hi; cases hi
      | cons x l ih =>
        intro hq i hi
        rcases List.mem_cons.1 hi with rfl | hi
        · exact hq.1
        · exact ih hq.2 i hi
    have := key es he e hmem
    unfold eAt at this
    rw [ho] at this
    exact this
def alR (ops : List Oper) (E : List Nat) (A : List (List Nat)) (e : Nat) (N : Frm) : Bool :=
  N.all fun (t, _) => ops.zipIdx.any fun (o, j) => o.dst == some t && (j == e || (!E.contains j && (A.getD j []).contains e))
theorem Frm.get_append (N V : Frm) (t : Nat) : (N ++ V).get t = match N.get t with | some v => some v | none => V.get t := by
  induction N with
  | nil => simp [Frm.get]
  | cons p N ih =>
    obtain ⟨d, v⟩ := p
    rw [List.cons_append, Frm.get_cons, Frm.get_cons, ih]
    by_cases e : d = t <;> simp [e]
theorem Frm.get_mem : ∀ (N : Frm) (t : Nat) (v : Value), N.get t = some v → (t, v) ∈ N := by
  intro N
  induction N with
  | nil => intro t v h; simp [Frm.get] at h
  | cons p N ih =>
    intro t v h
    obtain ⟨d, u⟩ := p
    rw [Frm.get_cons] at h
    by_cases e : d = t
    · subst e; simp at h; subst h; exact List.mem_cons_self ..
    · rw [if_neg e] at h; exact List.mem_cons_of_mem _ (ih t v h)
theorem Stg.next {ops : List Oper} {E : List Nat} {A G : List (List Nat)} {D : List Nat} {V : Frm} {h' : Hp} {k e : Nat} {o : Oper} {v : Value} (N : Frm) (hN : alR ops E A e N = true) (hv : Frm.getO (N ++ V) o.dst v = some v)
    (H : Stg P n B Q ops E A G k (e :: D) (Frm.get (N ++ V)) h') : ru P n B Q ops E A G k D V e o v h' := by
  refine ⟨_, ?_, Frm.getO_spec hv, H⟩
  intro t ht
  rw [Frm.get_append]
  cases hg : N.get t with
  | none => rfl
  | some u =>
    exfalso
    unfold alR at hN
    simp only [List.all_eq_true, List.any_eq_true, Bool.and_eq_true, Bool.or_eq_true, beq_iff_eq, List.contains_iff_mem, Bool.not_eq_true'] at hN
    obtain ⟨x, hx, h1, h2⟩ := hN _ (Frm.get_mem _ _ _ hg)
    obtain ⟨o', j⟩ := x
    have := ht j o' (List.mem_zipIdx_iff_getElem?.1 hx) h1
    rcases h2 with h2 | h2
    · exact this.1 h2
    · rcases this.2 with h3 | h3
      · have := List.contains_iff_mem.2 h3
        simp only at h2
        rw [this] at h2
        cases h2.1
      · exact h3 h2.2
theorem Stg.same {ops : List Oper} {E : List Nat} {A G : List (List Nat)} {D : List Nat} {V V' : Frm} {h : Hp} {k : Nat} (hVV : ∀ t, V.get t = V'.get t) (H : Stg P n B Q ops E A G k D V'.get h) : Stg P n B Q ops E A G k D V.get h := by
  have : Frm.get V = Frm.get V' := funext hVV
  rw [this]; exact H
theorem Stg.known {ops : List Oper} {E : List Nat} {A G : List (List Nat)} {D : List Nat} {V : Frm} {h : Hp} {k t : Nat} {b c : Bool} (hb : V.get t = some (.bool b)) (hbc : b = c)
    (H : Stg P n B Q ops E A G k D (Frm.get ((t, .bool c) :: V)) h) : Stg P n B Q ops E A G k D V.get h := by
  subst hbc
  refine Stg.same (fun u => ?_) H
  rw [Frm.get_cons]
  by_cases e : t = u
  · subst e; simp [hb]
  · rw [if_neg e]
theorem iteB.cases {b : Bool} {p q : Prop} (H : iteB b p q) : (b = true ∧ p) ∨ (b = false ∧ q) := by
  cases b
  · exact .inr ⟨rfl, H.2 rfl⟩
  · exact .inl ⟨rfl, H.1 rfl⟩
theorem AtC.stages {L : Frm} {h : Hp} {id : Nat} {ops : List Oper} (E : List Nat) (A G : List (List Nat)) (hm : P.follows .mixedOrders = true) (hB : oN ops E A G = true) (N : Frm)
    (hN : (N.all fun (t, _) => ops.zipIdx.any fun (o, j) => o.dst == some t && !E.contains j) = true) (k : Nat) (hk : E.length = k) (H : Stg P n B Q ops E A G k [] (Frm.get (N ++ L)) h) : AtC P n B Q L h (.region id ops.toArray true) := by
  intro a w ha hw
  refine wp_region_any hm ?_
  have hun : kJ (Array.replicate ops.length false) = ops.length := by
    unfold kJ
    simp
  have hsz : ops.toArray.size = ops.length := by simp
  rw [hsz]
  obtain ⟨B0, B1, B1a, B2, B3, B4, B5⟩ := fc hB
  have nolist : ∀ i, i < ops.length → (Array.replicate ops.length false).getD i true = false := by
    intro i hi; simp [hi]
  refine acO ops E A G hB ops.length _ k [] _ h a _ hun (by simp [hk]) List.nodup_nil ?_ (hw.same_heap ⟨rfl, rfl, rfl, (by first | exact Nat.le_refl _ | exact Nat.le_succ _ | (simp [World.drew]; done))⟩ rfl) H
  have hlt : ∀ {i : Nat} {o : Oper}, ops[i]? = some o → i < ops.length := by
    intro i o ho
    rcases Nat.lt_or_ge i ops.length with h | h
    · exact h
    · rw [List.getElem?_eq_none h] at ho; cases ho
  refine ⟨by simp, ?_, ?_, by simp, ?_, ha.1, ha.2.1, ?_⟩
  · intro i o ho hl
    rw [nolist i (hlt ho)] at hl; cases hl
  · intro e he
    have := nolist e (B4 e he)
    simp only [Array.getD_eq_getD_getElem?] at this
    simp [this]
  · intro i o ho hl
    rw [nolist i (hlt ho)] at hl; cases hl
  · intro t v hv hprod
    rw [Frm.get_append] at hv
    cases hg : N.get t with
    | none => rw [hg] at hv; exact ha.2.2 t v hv
    | some u =>
      exfalso
      simp only [List.all_eq_true, List.any_eq_true, Bool.and_eq_true, beq_iff_eq, Bool.not_eq_true'] at hN
      obtain ⟨x, hx, hd, hjE⟩ := hN _ (Frm.get_mem _ _ _ hg)
      obtain ⟨o, j⟩ := x
      have h1 : ops[j]? = some o := List.mem_zipIdx_iff_getElem?.1 hx
      have hj := hlt h1
      have hjE' : j ∉ E := fun hm => by
        have := List.contains_iff_mem.2 hm
        simp only at hjE
        rw [this] at hjE; cases hjE
      have := hprod j o h1 hd hjE'
      rw [nolist j hj] at this
      cases this
theorem AtC.seqS {L : Frm} {h : Hp} {id : Nat} {ops : List Oper} {y : Code} (E : List Nat) (A G : List (List Nat)) (hm : P.follows .mixedOrders = true) (hB : oN ops E A G = true) (N : Frm)
    (hN : (N.all fun (t, _) => ops.zipIdx.any fun (o, j) => o.dst == some t && !E.contains j) = true) (k : Nat) (hk : E.length = k) (H : Stg P n B (Exit.then (y.wp P Q) Q) ops E A G k [] (Frm.get (N ++ L)) h) : AtC P n B Q L h (.seq (.region id ops.toArray true) y) :=
  AtC.seq (AtC.stages E A G hm hB N hN k hk H)
theorem QOp.q {ops : List Oper} {V : Frm} {h : Hp} {i : Nat} {o : Oper} {v : Value} (ho : ops[i]? = some o) (hg : o.guard = none) (hq : Quiet1 P n (V.only (o.looksAt ops.toArray)) h o v) (hd : okD o n = true) (hv : V.getO o.dst v = some v) : qAt P n ops V h i := by
  unfold qAt
  rw [ho]
  refine ⟨v, _, Frm.only_get _, fun a w ha hw => .inl ⟨by simp [Region.wanted, hg], hq a w ha hw⟩, hd, Frm.getO_spec hv⟩
theorem QOp.p {T : TTab} {ops : List Oper} {V : Frm} {h : Hp} {i : Nat} {o : Oper} {v : Value} (hT : TTab.Ok P T) (ho : ops[i]? = some o) (hg : o.guard = none) (hq : kX T (V.only (o.looksAt ops.toArray)) o.op = some v) (hd : okD o n = true) (hv : V.getO o.dst v = some v) : qAt P n ops V h i :=
  QOp.q ho hg (Quiet1.pure hT hq) hd hv
theorem mT {ops : List Oper} {V : Frm} {o : Oper} {j t : Nat} {c : Bool} (hg : o.guard = some (j, c)) (hj : (ops[j]?).bind (·.dst) = some t) (hv : V.get t = some (.bool c)) : ∀ a, Agree n (V.only (o.looksAt ops.toArray)) a → Region.wanted o (yielded ops.toArray a.tmps) = true := by
  intro a ha
  have hmem : t ∈ o.looksAt ops.toArray := by
    unfold Oper.looksAt
    rw [hg]
    simp [hj]
  have h1 : (V.only (o.looksAt ops.toArray)).get t = some (.bool c) := by
    generalize o.looksAt ops.toArray = ts at hmem
    induction ts with
    | nil => cases hmem
    | cons x ts ih =>
      simp only [Frm.only]
      by_cases e : x = t
      · subst e; rw [hv]; simp [Frm.get_cons]
      · have hm' : t ∈ ts := by rcases List.mem_cons.1 hmem with rfl | h; exact absurd rfl e; exact h
        cases hx : V.get x with
        | none => exact ih hm'
        | some u => simp only; rw [Frm.get_cons, if_neg e]; exact ih hm'
  unfold Region.wanted
  rw [hg]
  have hy : yielded ops.toArray a.tmps j = some c := by
    unfold yielded
    simp [hj, ha.2.2 t _ h1]
  simp [hy]
theorem lm {ops : List Oper} {V : Frm} {o : Oper} {j t : Nat} {c : Bool} {u : Value} (hg : o.guard = some (j, c)) (hj : (ops[j]?).bind (·.dst) = some t) (hv : V.get t = some u) (hu : u ≠ .bool c) : ∀ a, Agree n (V.only (o.looksAt ops.toArray)) a → Region.wanted o (yielded ops.toArray a.tmps) = false := by
  intro a ha
  have hmem : t ∈ o.looksAt ops.toArray := by
    unfold Oper.looksAt
    rw [hg]
    simp [hj]
  have h1 : (V.only (o.looksAt ops.toArray)).get t = some u := by
    generalize o.looksAt ops.toArray = ts at hmem
    induction ts with
    | nil => cases hmem
    | cons x ts ih =>
      simp only [Frm.only]
      by_cases e : x = t
      · subst e; rw [hv]; simp [Frm.get_cons]
      · have hm' : t ∈ ts := by rcases List.mem_cons.1 hmem with rfl | h; exact absurd rfl e; exact h
        cases hx : V.get x with
        | none => exact ih hm'
        | some u => simp only; rw [Frm.get_cons, if_neg e]; exact ih hm'
  unfold Region.wanted
  rw [hg]
  have hy : yielded ops.toArray a.tmps j ≠ some c := by
    unfold yielded
    simp only [List.getElem?_toArray, hj, Option.bind_some, ha.2.2 t _ h1]
    intro hc
    split at hc
    · rename_i heq
      simp only [Option.some.injEq] at heq hc
      subst hc; exact hu heq
    · cases hc
  simpa using hy
theorem QOp.y {ops : List Oper} {V : Frm} {h : Hp} {i j t : Nat} {c : Bool} {o : Oper} {v : Value} (ho : ops[i]? = some o) (hg : o.guard = some (j, c)) (hj : (ops[j]?).bind (·.dst) = some t) (hv' : V.get t = some (.bool c)) (hq : Quiet1 P n (V.only (o.looksAt ops.toArray)) h o v) (hd : okD o n = true) (hv : V.getO o.dst v = some v) : qAt P n ops V h i := by
  unfold qAt
  rw [ho]
  exact ⟨v, _, Frm.only_get _, fun a w ha hw => .inl ⟨mT hg hj hv' a ha, hq a w ha hw⟩, hd, Frm.getO_spec hv⟩
theorem QOp.yp {T : TTab} {ops : List Oper} {V : Frm} {h : Hp} {i j t : Nat} {c : Bool} {o : Oper} {v : Value} (hT : TTab.Ok P T) (ho : ops[i]? = some o) (hg : o.guard = some (j, c)) (hj : (ops[j]?).bind (·.dst) = some t) (hv' : V.get t = some (.bool c)) (hq : kX T (V.only (o.looksAt ops.toArray)) o.op = some v) (hd : okD o n = true) (hv : V.getO o.dst v = some v) : qAt P n ops V h i :=
  QOp.y ho hg hj hv' (Quiet1.pure hT hq) hd hv
theorem QOp.no {ops : List Oper} {V : Frm} {h : Hp} {i j t : Nat} {b c : Bool} {o : Oper} (ho : ops[i]? = some o) (hg : o.guard = some (j, c)) (hj : (ops[j]?).bind (·.dst) = some t) (hv' : V.get t = some (.bool b)) (hbc : b ≠ c) (hd : okD o n = true) (hv : V.getO o.dst undef = some undef) : qAt P n ops V h i := by
  unfold qAt
  rw [ho]
  exact ⟨undef, _, Frm.only_get _, fun a w ha hw => .inr ⟨lm hg hj hv' (by simpa using hbc) a ha, rfl⟩, hd, Frm.getO_spec hv⟩
theorem Eff.mono {L : Frm} {h : Hp} {o : Oper} {K K' : Value → Hp → Prop} (h1 : Eff P n B L h o K) (h2 : ∀ v h', K v h' → K' v h') : Eff P n B L h o K' :=
  fun a w ha hw next Q hn => h1 a w ha hw next Q fun v w' h' hs hk => hn v w' h' hs (h2 _ _ hk)
theorem EOp.e {ops : List Oper} {E : List Nat} {A G : List (List Nat)} {D : List Nat} {V : Frm} {h : Hp} {k i : Nat} {o : Oper} {K : Value → Hp → Prop} (ho : ops[i]? = some o) (hg : o.guard = none) (hd : okD o n = true) (he : Eff P n B (V.only (o.looksAt ops.toArray)) h o K)
    (H : ∀ v h', K v h' → ru P n B Q ops E A G k D V i o v h') : eAt P n B Q ops E A G k D V h i := by
  unfold eAt
  rw [ho]
  exact ⟨_, Frm.only_get _, hd, .inl ⟨hg, he.mono H⟩⟩
theorem EOp.y {ops : List Oper} {E : List Nat} {A G : List (List Nat)} {D : List Nat} {V : Frm} {h : Hp} {k i j t : Nat} {c : Bool} {o : Oper} {K : Value → Hp → Prop} (ho : ops[i]? = some o) (hg : o.guard = some (j, c)) (hj : (ops[j]?).bind (·.dst) = some t) (hv' : V.get t = some (.bool c)) (hd : okD o n = true)
    (he : Eff P n B (V.only (o.looksAt ops.toArray)) h { o with guard := none } K)
    (H : ∀ v h', K v h' → ru P n B Q ops E A G k D V i o v h') : eAt P n B Q ops E A G k D V h i := by
  unfold eAt
  rw [ho]
  exact ⟨_, Frm.only_get _, hd, .inr (.inl ⟨mT hg hj hv', he.mono H⟩)⟩
theorem EOp.no {ops : List Oper} {E : List Nat} {A G : List (List Nat)} {D : List Nat} {V : Frm} {h : Hp} {k i j t : Nat} {b c : Bool} {o : Oper} (ho : ops[i]? = some o) (hg : o.guard = some (j, c)) (hj : (ops[j]?).bind (·.dst) = some t) (hv' : V.get t = some (.bool b)) (hbc : b ≠ c) (hd : okD o n = true)
    (H : ru P n B Q ops E A G k D V i o undef h) : eAt P n B Q ops E A G k D V h i := by
  unfold eAt
  rw [ho]
  exact ⟨_, Frm.only_get _, hd, .inr (.inr ⟨lm hg hj hv' (by simpa using hbc), H⟩)⟩
theorem EAll.nil {ops : List Oper} {E : List Nat} {A G : List (List Nat)} {D : List Nat} {V : Frm} {h : Hp} {k : Nat} : EAll P n B Q ops E A G k D V h [] := trivial
theorem EAll.cons {ops : List Oper} {E : List Nat} {A G : List (List Nat)} {D : List Nat} {V : Frm} {h : Hp} {k e : Nat} {r : List Nat} (h1 : eAt P n B Q ops E A G k D V h e) (h2 : EAll P n B Q ops E A G k D V h r) : EAll P n B Q ops E A G k D V h (e :: r) := ⟨h1, h2⟩
end
end Go.Lift

namespace Go.Lift
open Go
section
variable {P : Program} {T : TTab} {n : Nat} {L : Frm} {h : Hp} {o : Oper} {B : Base}
theorem Quiet1.idxA {t e sz len : Nat} {x i : Operand} {a : Addr} {k : IntKind} {j : Int} (hT : TTab.Ok P T) (hop : o.op = .indexAddr t x i) (ht : T.desc t = some (.array len e)) (hs : T.size e = some sz)
    (hx : L.ev x = some (.pointer (some a))) (hi : L.ev i = some (.int k j)) (h2 : 0 ≤ j ∧ j < len) : Quiet1 P n L h o (.pointer (some (a.add (j.toNat * sz)))) := by
  intro ac w ha hw
  simp [execOp, hop, ha.eval hx, ha.eval hi, Instr.indexAt, asIntOf, Result.andThen, TTab.desc_run hT ht, h2, TTab.size_run hT hs, Instr.sureAddr]
theorem Quiet1.makeFn {fn : Fn} {first captured : Array Operand} {bs cs : List Value} (hop : o.op = .makeFunc fn first captured) (hb : jt L first.toList = some bs) (hc : jt L captured.toList = some cs) :
    Quiet1 P n L h o (.func fn bs.toArray cs.toArray) := by
  intro ac w ha hw
  have e1 := m8 ha _ _ hb
  have e2 := m8 ha _ _ hc
  have e3 : first.map ac.eval = bs.toArray := by rw [← e1, ← Array.toList_map]
  have e4 : captured.map ac.eval = cs.toArray := by rw [← e2, ← Array.toList_map]
  simp [execOp, hop, Instr.makeFunc, e3, e4]
theorem Eff.callF {α : Type} {f : FuncId} {x : Operand} {args : Array Operand} {tys : Array TypeId} {vs bs cs : List Value} {toV : α → Value} {S : α → Heap → Prop}
    (hop : o.op = .call ⟨.value x, args, tys⟩) (hx : L.ev x = some (.func (.func f) bs.toArray cs.toArray)) (hcall : ∀ vs w, (callFunc f vs).run P w = .ok (.enter f vs) w)
    (hvs : jt L args.toList = some vs) (sh : Heap → Prop) (H0 : sh h.m) (hl : ∀ w m, Rel ⟨m, []⟩ w.heap → sh m → Calls P f (bs ++ vs ++ cs).toArray w (Post ⟨w, m⟩ toV S)) :
    Eff P n B L h o (fun v h' => ∃ r m, v = toV r ∧ h' = ⟨m, h.pv⟩ ∧ S r m) := by
  intro ac w ha hw next Q hn
  have e1 := m8 ha _ _ hvs
  have e2 : args.map ac.eval = vs.toArray := by rw [← e1, ← Array.toList_map]
  have : (execOp ac.eval o).run P w = .ok (.enter f (bs ++ vs ++ cs).toArray) w := by
    simp [execOp, hop, resolve, Deferred.ofValue, ha.eval hx, invoke, e2, hcall]
  unfold Oper.wp
  rw [this]
  refine (hl w h.m hw.relCall H0).mono ?_
  rintro e w' ⟨r, m, rfl, hs, hS⟩
  exact hn _ _ _ (hw.call hs) ⟨r, m, rfl, rfl, hS⟩
theorem QOp.pk {T : TTab} {ops : List Oper} {V : Frm} {h : Hp} {i : Nat} {o : Oper} {b c : Bool} (hT : TTab.Ok P T) (ho : ops[i]? = some o) (hg : o.guard = none) (hq : kX T (V.only (o.looksAt ops.toArray)) o.op = some (.bool b)) (hd : okD o n = true) (hb : b = c) (hv : V.getO o.dst (.bool c) = some (.bool c)) : qAt P n ops V h i := by
  subst hb
  exact QOp.p hT ho hg hq hd hv
end
end Go.Lift

namespace Go.Lift
open Go
section
variable {P : Program} {T : TTab} {n : Nat} {L : Frm} {h : Hp} {o : Oper} {B : Base}
end
end Go.Lift

namespace Go.Lift
open Go
section
variable {P : Program} {T : TTab} {n : Nat} {L : Frm} {m0 : Heap} {pv0 : List (Nat × List Value)} {o : Oper} {B : Base}
theorem EffX.store {t : Nat} {x y : Operand} {a : Addr} {v : Value} {k : Heap → Prop} (hT : TTab.Ok P T) (hop : o.op = .store t x y) (hs : T.size t = some 1) (hx : L.ev x = some (.pointer (some a))) (hy : L.ev y = some v) (ho : one v = true) (H : Lift.amL a v m0 k) :
    Eff P n B L ⟨m0, pv0⟩ o (fun _ h' => ∃ m, h' = ⟨m, pv0⟩ ∧ k m) :=
  Eff.store (h := ⟨m0, pv0⟩) hT hop hs hx hy ho H
theorem EffX.storeS {t s : Nat} {x y : Operand} {a : Addr} {vs : List Value} {k : Heap → Prop} (hT : TTab.Ok P T) (hop : o.op = .store t x y) (hs : T.size t = some s) (hx : L.ev x = some (.pointer (some a))) (hy : L.ev y = some (.agg vs.toArray)) (hl : vs.length = s) (ho : bT vs = true) (H : Lift.dk a vs m0 k) :
    Eff P n B L ⟨m0, pv0⟩ o (fun _ h' => ∃ m, h' = ⟨m, pv0⟩ ∧ k m) :=
  Eff.storeS (h := ⟨m0, pv0⟩) hT hop hs hx hy hl ho H
theorem EffX.box {t : Nat} {x : Operand} {v : Value} {cs : List Value} {k : Addr → Heap → Prop} (hop : o.op = .box t x) (hx : L.ev x = some v) (hcs : v.cells = cs.toArray) (H : Lift.new cs m0 k) :
    Eff P n B L ⟨m0, pv0⟩ o (fun u h' => ∃ a m, u = .pointer (some a) ∧ h' = ⟨m, pv0⟩ ∧ k a m) :=
  Eff.box (h := ⟨m0, pv0⟩) hop hx hcs H
theorem EffX.boxP {t : Nat} {x : Operand} {v : Value} {cs : List Value} {k : Heap → Prop} (hop : o.op = .box t x) (hx : L.ev x = some v) (hcs : v.cells = cs.toArray) (H : Lift.mem m0 k) :
    Eff P n B L ⟨m0, pv0⟩ o (fun u h' => ∃ b m, u = .pointer (some ⟨b, 0, none⟩) ∧ h' = ⟨m, (b, cs) :: pv0⟩ ∧ MExt m0 m ∧ Lift.mem m k) :=
  Eff.boxP (h := ⟨m0, pv0⟩) hop hx hcs H
theorem EffX.alloc {t : Nat} {cs : List Value} {k : Addr → Heap → Prop} (hT : TTab.Ok P T) (hop : o.op = .alloc t) (hz : T.zero t = some cs) (H : Lift.new cs m0 k) :
    Eff P n B L ⟨m0, pv0⟩ o (fun u h' => ∃ a m, u = .pointer (some a) ∧ h' = ⟨m, pv0⟩ ∧ k a m) :=
  Eff.alloc (h := ⟨m0, pv0⟩) hT hop hz H
theorem EffX.allocP {t : Nat} {cs : List Value} {k : Heap → Prop} (hT : TTab.Ok P T) (hop : o.op = .alloc t) (hz : T.zero t = some cs) (H : Lift.mem m0 k) :
    Eff P n B L ⟨m0, pv0⟩ o (fun u h' => ∃ b m, u = .pointer (some ⟨b, 0, none⟩) ∧ h' = ⟨m, (b, cs) :: pv0⟩ ∧ MExt m0 m ∧ Lift.mem m k) :=
  Eff.allocP (h := ⟨m0, pv0⟩) hT hop hz H
theorem EffX.storeP {t i : Nat} {x y : Operand} {a : Addr} {v : Value} {cs : List Value} {qv : List (Nat × List Value)} (hT : TTab.Ok P T) (hop : o.op = .store t x y) (hs : T.size t = some 1) (hx : L.ev x = some (.pointer (some a))) (hy : L.ev y = some v) (ho : one v = true) (hp : pv0[i]? = some (a.block, cs)) (hsp : a.spot = none) (hle : Nat.blt a.off cs.length = true) (hq : pv0.set i (a.block, cs.set a.off v) = qv) :
    Eff P n B L ⟨m0, pv0⟩ o (fun _ h' => h' = ⟨m0, qv⟩) :=
  Eff.storeP (h := ⟨m0, pv0⟩) hT hop hs hx hy ho hp hsp hle hq
theorem EffX.storeSP {t s i : Nat} {x y : Operand} {a : Addr} {vs cs : List Value} {qv : List (Nat × List Value)} (hT : TTab.Ok P T) (hop : o.op = .store t x y) (hs : T.size t = some s) (hx : L.ev x = some (.pointer (some a))) (hy : L.ev y = some (.agg vs.toArray)) (hl : vs.length = s) (ho : bT vs = true) (hp : pv0[i]? = some (a.block, cs)) (hsp : a.spot = none) (hle : Nat.ble (a.off + s) cs.length = true) (hq : pv0.set i (a.block, jq cs a.off vs) = qv) :
    Eff P n B L ⟨m0, pv0⟩ o (fun _ h' => h' = ⟨m0, qv⟩) :=
  Eff.storeSP (h := ⟨m0, pv0⟩) hT hop hs hx hy hl ho hp hsp hle hq
theorem EffX.mkS {t e sz b : Nat} {x y : Operand} {k1 k2 : IntKind} {z : List Value} {len cap : Int} {k : Sl → Heap → Prop} (hT : TTab.Ok P T) (hop : o.op = .makeSlice t x y) (ht : T.desc t = some (.slice e)) (hs : T.size e = some sz) (hb : T.bytes e = some b) (hz : T.zero e = some z) (hzl : z.length = sz)
    (hx : L.ev x = some (.int k1 len)) (hy : L.ev y = some (.int k2 cap)) (hb1 : 1 ≤ b) (H : Lift.mkS z b len cap m0 k) :
    Eff P n B L ⟨m0, pv0⟩ o (fun u h' => ∃ r m, u = Sl.toV r ∧ h' = ⟨m, pv0⟩ ∧ k r m) :=
  Eff.mkS (h := ⟨m0, pv0⟩) hT hop ht hs hb hz hzl hx hy hb1 H
theorem EffX.appendS {t e sz b : Nat} {tys : Array TypeId} {x y : Operand} {args : Array Operand} {z : List Value} {s u : Sl} {k : Sl → Heap → Prop} (hT : TTab.Ok P T) (hop : o.op = .call ⟨.builtin .append, args, tys⟩) (hargs : args.toList = [x, y]) (htys : tys.toList = [t, t])
    (ht : T.desc t = some (.slice e)) (hs : T.size e = some sz) (hb : T.bytes e = some b) (hz : T.zero e = some z) (hzl : z.length = sz)
    (hx : L.ev x = some (.slice s.a s.len s.cap)) (hy : L.ev y = some (.slice u.a u.len u.cap)) (hb1 : 1 ≤ b ∧ b ≤ 1024) (H : Lift.aP sz b s u m0 k) :
    Eff P n B L ⟨m0, pv0⟩ o (fun v h' => ∃ r m, v = Sl.toV r ∧ h' = ⟨m, pv0⟩ ∧ k r m) :=
  Eff.appendS (h := ⟨m0, pv0⟩) hT hop hargs htys ht hs hb hz hzl hx hy hb1 H
theorem EffX.call {α : Type} {f : FuncId} {args : Array Operand} {tys : Array TypeId} {vs : List Value} {toV : α → Value} {S : α → Heap → Prop}
    (hop : o.op = .call ⟨.value (.func f), args, tys⟩) (hcall : ∀ vs w, (callFunc f vs).run P w = .ok (.enter f vs) w)
    (hvs : jt L args.toList = some vs) (sh : Heap → Prop) (H0 : sh m0) (hl : ∀ w m, Rel ⟨m, []⟩ w.heap → sh m → Calls P f vs.toArray w (Post ⟨w, m⟩ toV S)) :
    Eff P n B L ⟨m0, pv0⟩ o (fun v h' => ∃ r m, v = toV r ∧ h' = ⟨m, pv0⟩ ∧ S r m) :=
  Eff.call (h := ⟨m0, pv0⟩) hop hcall hvs sh H0 hl
theorem EffX.buildS2 {t len e sz : Nat} {parts : Array (Nat × Operand)} {z cs : List Value} {pv : List (Nat × Value)} {k : Addr → Heap → Prop} (hT : TTab.Ok P T) (hop : o.op = .buildSlice t len parts) (ht : T.desc t = some (.slice e)) (hs : T.size e = some sz) (hz : T.zero e = some z) (hzl : z.length = sz) (hsmall : Nat.ble (len * sz) 16777216 = true)
    (hpv : kl L parts.toList = some pv) (hf : Instr.fill (fun i => some (i * sz, sz)) (List.flatten (List.replicate len z)).toArray pv = some cs.toArray)
    (H : Lift.new cs m0 k) :
    Eff P n B L ⟨m0, pv0⟩ o (fun u h' => ∃ a m, u = .slice (some a) len len ∧ h' = ⟨m, pv0⟩ ∧ k a m) :=
  Eff.buildS2 (h := ⟨m0, pv0⟩) hT hop ht hs hz hzl hsmall hpv hf H
theorem EffX.callF {α : Type} {f : FuncId} {x : Operand} {args : Array Operand} {tys : Array TypeId} {vs bs cs : List Value} {toV : α → Value} {S : α → Heap → Prop}
    (hop : o.op = .call ⟨.value x, args, tys⟩) (hx : L.ev x = some (.func (.func f) bs.toArray cs.toArray)) (hcall : ∀ vs w, (callFunc f vs).run P w = .ok (.enter f vs) w)
    (hvs : jt L args.toList = some vs) (sh : Heap → Prop) (H0 : sh m0) (hl : ∀ w m, Rel ⟨m, []⟩ w.heap → sh m → Calls P f (bs ++ vs ++ cs).toArray w (Post ⟨w, m⟩ toV S)) :
    Eff P n B L ⟨m0, pv0⟩ o (fun v h' => ∃ r m, v = toV r ∧ h' = ⟨m, pv0⟩ ∧ S r m) :=
  Eff.callF (h := ⟨m0, pv0⟩) hop hx hcall hvs sh H0 hl
end
end Go.Lift

namespace Go.Lift
open Go
def amF (s : Sl) (lo hi mx : Option Int) (sz : Nat) (r : Sl) : Prop := ki s lo hi mx sz fun r' => r' = r
section
variable {P : Program} {T : TTab} {n : Nat} {L : Frm} {h : Hp} {o : Oper}
end
end Go.Lift

namespace Go.Lift
open Go
structure Ents (kd : IntKind) (es : Array MapEntry) (c : Nat) (f : List (Int × Value)) : Prop where
  all : es.toList.map (fun e => (e.key, e.val)) = f.map (fun p => (Value.int kd p.1, p.2))
  born : (es.toList.map (·.born)).Nodup
  clock : ∀ e ∈ es.toList, e.born < c
  keys : (f.map (·.1)).Nodup
def ajy (kd : IntKind) (h : Heap) (x : Option Nat) (f : List (Int × Value)) : Prop :=
  match x with
  | none => f = []
  | some r => ∃ es c, h[r]? = some (.map es c) ∧ Ents kd es c f
def vals {α : Type} (toV : α → Value) (f : List (Int × α)) : List (Int × Value) := f.map fun p => (p.1, toV p.2)
def updM {α : Type} : List (Int × α) → Int → α → List (Int × α)
  | [], k, v => [(k, v)]
  | p :: r, k, v => if k == p.1 then (p.1, v) :: r else p :: updM r k v
def newM (h : Heap) (k : Option Nat → Heap → Prop) : Prop := k (some h.size) (h.push (.map #[] 0))
def adn {α : Type} (kd : IntKind) (toV : α → Value) (zero : α) (x : Option Nat) (key : Int) (h : Heap) (k : α × Bool → Prop) : Prop :=
  ∃ (f : List (Int × α)) (r : α × Bool), ajy kd h x (vals toV f) ∧ (match f.lookup key with | some v => (v, true) | none => (zero, false)) = r ∧ k r
def setM {α : Type} (kd : IntKind) (toV : α → Value) (x : Option Nat) (key : Int) (v : α) (h : Heap) (k : Heap → Prop) : Prop :=
  ∃ (r : Nat) (f : List (Int × α)), x = some r ∧ ajy kd h (some r) (vals toV f) ∧ ∀ es c, Ents kd es c (vals toV (updM f key v)) → k (h.setIfInBounds r (.map es c))
section
variable {α : Type} {toV : α → Value}
theorem yX (f : List (Int × α)) (k j : Int) (v : α) : (updM f k v).lookup j = if j == k then some v else f.lookup j := by
  induction f with
  | nil => simp only [updM, List.lookup]; split <;> simp_all
  | cons p r ih =>
    obtain ⟨a, b⟩ := p
    simp only [updM]
    by_cases e : k = a
    · subst e
      simp only [beq_self_eq_true, if_true, List.lookup]
      by_cases e2 : j = k
      · subst e2; simp
      · have : (j == k) = false := by simpa using e2
        simp [this]
    · have e0 : (k == a) = false := by simpa using e
      rw [e0]
      simp only [Bool.false_eq_true, if_false, List.lookup]
      by_cases e2 : j = a
      · subst e2
        have : (j == k) = false := by simpa using fun h => e h.symm
        simp [this]
      · have : (j == a) = false := by simpa using e2
        simp [this, ih]
theorem aeD {f : List (Int × α)} {k : Int} (h : f.lookup k = none) : k ∉ f.map (·.1) := by
  induction f with
  | nil => simp
  | cons p r ih =>
    obtain ⟨a, b⟩ := p
    simp only [List.lookup] at h
    split at h
    · cases h
    · rename_i h1
      simp only [List.map_cons, List.mem_cons, not_or]
      exact ⟨by simpa using h1, ih h⟩
theorem ajR {f : List (Int × α)} {k : Int} {v : α} (h : f.lookup k = none) : updM f k v = f ++ [(k, v)] := by
  induction f with
  | nil => rfl
  | cons p r ih =>
    obtain ⟨a, b⟩ := p
    simp only [List.lookup] at h
    split at h
    · cases h
    · rename_i h1
      simp only [updM, h1, Bool.false_eq_true, if_false, ih h, List.cons_append]
def tG : List (Int × α) → Int → Nat → Option (Nat × α)
  | [], _, _ => none
  | p :: r, k, i => if k == p.1 then some (i, p.2) else tG r k (i + 1)
theorem oP (f : List (Int × α)) (k : Int) : ∀ i, (tG f k i).map (·.2) = f.lookup k := by
  induction f with
  | nil => intro i; rfl
  | cons p r ih =>
    intro i
    obtain ⟨a, b⟩ := p
    simp only [tG, List.lookup]
    by_cases e : k = a
    · subst e; simp
    · have : (k == a) = false := by simpa using e
      simp [this, ih]
theorem ahj (f : List (Int × α)) (k : Int) : ∀ i j v, tG f k i = some (j, v) → i ≤ j ∧ f[j - i]? = some (k, v) ∧ ∀ u, updM f k u = f.set (j - i) (k, u) := by
  induction f with
  | nil => intro i j v h; cases h
  | cons p r ih =>
    intro i j v h
    obtain ⟨a, b⟩ := p
    simp only [tG] at h
    by_cases e : k = a
    · subst e
      simp only [beq_self_eq_true, if_true, Option.some.injEq, Prod.mk.injEq] at h
      obtain ⟨rfl, rfl⟩ := h
      refine ⟨Nat.le_refl _, by simp, fun u => ?_⟩
      simp [updM]
    · have e0 : (k == a) = false := by simpa using e
      rw [e0] at h
      simp only [Bool.false_eq_true, if_false] at h
      obtain ⟨h1, h2, h3⟩ := ih _ _ _ h
      have hj : j - i = (j - (i + 1)) + 1 := by omega
      refine ⟨by omega, by rw [hj, List.getElem?_cons_succ]; exact h2, fun u => ?_⟩
      rw [hj, List.set_cons_succ]
      simp only [updM, e0, Bool.false_eq_true, if_false, h3 u]
theorem acU (f : List (Int × α)) (k : Int) (v : α) : vals toV (updM f k v) = updM (vals toV f) k (toV v) := by
  induction f with
  | nil => rfl
  | cons p r ih =>
    simp only [vals, updM, List.map_cons]
    split
    · rfl
    · simp only [List.map_cons, List.cons.injEq, true_and]; exact ih
theorem yC (f : List (Int × α)) (k : Int) : (vals toV f).lookup k = (f.lookup k).map toV := by
  induction f with
  | nil => rfl
  | cons p r ih =>
    obtain ⟨a, b⟩ := p
    simp only [vals, List.map_cons, List.lookup]
    split
    · rfl
    · exact ih
end
section
variable {P : Program} {T : TTab} {n : Nat} {L : Frm} {h : Hp} {o : Oper} {B : Base}
open Instr in
theorem aei {kd : IntKind} {key : Int} : ∀ (l : List MapEntry) (f : List (Int × Value)) (i : Nat), l.map (fun e => (e.key, e.val)) = f.map (fun p => (Value.int kd p.1, p.2)) →
    findNow (.int kd) (.int kd key) l i = some (tG f key i) := by
  intro l
  induction l with
  | nil =>
    intro f i hf
    cases f with
    | nil => rfl
    | cons => simp at hf
  | cons e r ih =>
    intro f i hf
    cases f with
    | nil => simp at hf
    | cons p q =>
      simp only [List.map_cons, List.cons.injEq, Prod.mk.injEq] at hf
      obtain ⟨⟨h1, h2⟩, h3⟩ := hf
      unfold findNow
      rw [h1]
      by_cases e : key = p.1
      · subst e; simp [sameNow, tG, h2]
      · have e0 : (key == p.1) = false := by simpa using e
        simp [sameNow, tG, e0, e, ih q (i + 1) h3]
theorem fG {w : World} {r : Nat} {es : Array MapEntry} {c : Nat} (hg : w.heap[r]? = some (.map es c)) : (getObj r).run P w = .ok (.map es c) w := by
  simp [getObj, Sem.run, hg]
open Instr in
theorem jD (hT : TTab.Ok P T) {kt : Nat} {kd : IntKind} {key : Int} {es : Array MapEntry} {c : Nat} {f : List (Int × Value)} {w : World} (hk : T.desc kt = some (.int kd)) (he : Ents kd es c f) :
    (findKey kt (.int kd key) es.toList).run P w = .ok (tG f key 0) w := by
  simp [findKey, TTab.desc_run hT hk, Result.andThen, aei _ _ _ he.all]
open Instr in
theorem sP (hT : TTab.Ok P T) {kt : Nat} {kd : IntKind} {key : Int} {b : Bool} {w : World} (hk : T.desc kt = some (.int kd)) : ∀ m, (checkKey b (m + 1) kt (.int kd key)).run P w = .ok () w := by
  intro m
  simp [checkKey, TTab.desc_run hT hk, Result.andThen]
open Instr in
theorem fK (hT : TTab.Ok P T) {kt : Nat} {kd : IntKind} {key : Int} {b : Bool} {w : World} (hk : T.desc kt = some (.int kd)) : (checkKey b 10000 kt (.int kd key)).run P w = .ok () w :=
  sP hT hk 9999
def vi (P : Program) (t : Nat) : Option Value := (P.info? t).bind (·.zero)
theorem nw {t : Nat} {v : Value} (hz : vi P t = some v) (w : World) : (zeroValue t).run P w = .ok v w := by
  unfold vi at hz
  cases hi : P.info? t with
  | none => simp [hi] at hz
  | some i =>
    simp only [hi, Option.bind_some] at hz
    simp [zeroValue, typeInfo, hi, Result.andThen, hz]
theorem iL {es : Array MapEntry} {c : Nat} : Obj.map es c ≠ junk := fun e => by cases e
theorem Rel.mapEs {H : Heap} (hr : Rel h H) {kd : IntKind} {x : Option Nat} {f : List (Int × Value)} (hm : Lift.ajy kd h.m x f) : Lift.ajy kd H x f := by
  cases x with
  | none => exact hm
  | some r =>
    obtain ⟨es, c, h1, h2⟩ := hm
    exact ⟨es, c, hr.block h1 iL, h2⟩
theorem Quiet1.lookM {α : Type} {t kt e : Nat} {x i : Operand} {kd : IntKind} {toV : α → Value} {zero : α} {m : Option Nat} {key : Int} {f : List (Int × α)} (hT : TTab.Ok P T) (hop : o.op = .lookup t x i true) (ht : T.desc t = some (.map kt e)) (hk : T.desc kt = some (.int kd)) (hz : vi P e = some (toV zero))
    (hx : L.ev x = some (.map m)) (hi : L.ev i = some (.int kd key)) (hf : Lift.ajy kd h.m m (vals toV f)) {r : α × Bool} (hr : (match f.lookup key with | some v => (v, true) | none => (zero, false)) = r) : Quiet1 P n L h o (.tuple #[toV r.1, .bool r.2]) := by
  intro ac w ha hw
  have hm := hw.mapEs hf
  have hl := oP (vals toV f) key 0
  rw [yC] at hl
  have hr1 : toV r.1 = match f.lookup key with | some v => toV v | none => toV zero := by subst hr; cases f.lookup key <;> rfl
  have hr2 : r.2 = (f.lookup key).isSome := by subst hr; cases f.lookup key <;> rfl
  cases m with
  | none =>
    simp only [Lift.ajy] at hm
    have hf0 : f = [] := by cases f with | nil => rfl | cons => simp [vals] at hm
    subst hf0
    simp only [List.lookup] at hr
    subst hr
    simp [execOp, hop, ha.eval hx, ha.eval hi, Instr.lookup, TTab.desc_run hT ht, Result.andThen, fK hT hk, Instr.findKey, TTab.desc_run hT hk, Instr.findNow, nw hz]
  | some q =>
    obtain ⟨es, c, h1, h2⟩ := hm
    simp only [execOp, hop, ha.eval hx, ha.eval hi]
    cases hq : f.lookup key with
    | none =>
      rw [hq] at hl hr1 hr2
      have hn : tG (vals toV f) key 0 = none := by simpa using hl
      simp [Instr.lookup, TTab.desc_run hT ht, Result.andThen, fG h1, fK hT hk, jD hT hk h2, hn, nw hz, hr1, hr2]
    | some v =>
      rw [hq] at hl hr1 hr2
      cases hn : tG (vals toV f) key 0 with
      | none => simp [hn] at hl
      | some p =>
        obtain ⟨a, b⟩ := p
        simp [hn] at hl
        simp [Instr.lookup, TTab.desc_run hT ht, Result.andThen, fG h1, fK hT hk, jD hT hk h2, hn, hr1, hr2, hl]
theorem Quiet1.lookM1 {α : Type} {t kt e : Nat} {x i : Operand} {kd : IntKind} {toV : α → Value} {zero : α} {m : Option Nat} {key : Int} {f : List (Int × α)} (hT : TTab.Ok P T) (hop : o.op = .lookup t x i false) (ht : T.desc t = some (.map kt e)) (hk : T.desc kt = some (.int kd)) (hz : vi P e = some (toV zero))
    (hx : L.ev x = some (.map m)) (hi : L.ev i = some (.int kd key)) (hf : Lift.ajy kd h.m m (vals toV f)) {r : α × Bool} (hr : (match f.lookup key with | some v => (v, true) | none => (zero, false)) = r) : Quiet1 P n L h o (toV r.1) := by
  intro ac w ha hw
  have hm := hw.mapEs hf
  have hl := oP (vals toV f) key 0
  rw [yC] at hl
  have hr1 : toV r.1 = match f.lookup key with | some v => toV v | none => toV zero := by subst hr; cases f.lookup key <;> rfl
  cases m with
  | none =>
    simp only [Lift.ajy] at hm
    have hf0 : f = [] := by cases f with | nil => rfl | cons => simp [vals] at hm
    subst hf0
    simp only [List.lookup] at hr
    subst hr
    simp [execOp, hop, ha.eval hx, ha.eval hi, Instr.lookup, TTab.desc_run hT ht, Result.andThen, fK hT hk, Instr.findKey, TTab.desc_run hT hk, Instr.findNow, nw hz]
  | some q =>
    obtain ⟨es, c, h1, h2⟩ := hm
    simp only [execOp, hop, ha.eval hx, ha.eval hi]
    cases hq : f.lookup key with
    | none =>
      rw [hq] at hl hr1
      have hn : tG (vals toV f) key 0 = none := by simpa using hl
      simp [Instr.lookup, TTab.desc_run hT ht, Result.andThen, fG h1, fK hT hk, jD hT hk h2, hn, nw hz, hr1]
    | some v =>
      rw [hq] at hl hr1
      cases hn : tG (vals toV f) key 0 with
      | none => simp [hn] at hl
      | some p =>
        obtain ⟨a, b⟩ := p
        simp [hn] at hl
        simp [Instr.lookup, TTab.desc_run hT ht, Result.andThen, fG h1, fK hT hk, jD hT hk h2, hn, hr1, hl]
theorem mA {w : World} {r : Nat} {es es' : Array MapEntry} {c c' : Nat} (hg : w.heap[r]? = some (.map es c)) : (setObj r (.map es' c')).run P w = .ok () { w with heap := w.heap.setIfInBounds r (.map es' c') } := by
  simp [setObj, Sem.run, hg]
theorem uL {kd : IntKind} {a : Int} : ∀ n, Instr.sameBits n (.int kd a) (.int kd a) = true := by
  intro n; cases n <;> simp [Instr.sameBits]
theorem acV {kd : IntKind} {a : Int} {w : World} : (Instr.keyThatStays (.int kd a) (.int kd a)).run P w = .ok (.int kd a) w := by
  simp [Instr.keyThatStays, uL]
theorem InW.setMap {w : World} (hi : InW B h w) {r : Nat} {es : Array MapEntry} {c : Nat} {ob : Obj} (hc : h.m[r]? = some (.map es c)) : InW B ⟨h.m.setIfInBounds r ob, h.pv⟩ { w with heap := w.heap.setIfInBounds r ob } := by
  have hH := hi.rel.block hc iL
  have nj : ∀ b : Nat, h.m[b]? = some junk → r ≠ b := by
    intro b hbj e
    subst e
    rw [hc] at hbj
    exact iL (Option.some.inj hbj)
  refine ⟨hi.os, hi.out, hi.tape, ⟨?_, ?_, ?_, hi.rel.nodup⟩, ?_, hi.fresh, by simpa using hi.grow⟩
  · simpa using hi.rel.size
  · intro b
    by_cases e : r = b
    · subst e
      right
      have l1 := (Array.getElem?_eq_some_iff.1 hc).1
      have l2 := (Array.getElem?_eq_some_iff.1 hH).1
      simp [Array.getElem?_setIfInBounds, l1, l2]
    · simp only [Array.getElem?_setIfInBounds_ne e]
      exact hi.rel.same b
  · intro b cs hm
    obtain ⟨h1, T', h2⟩ := hi.rel.priv b cs hm
    have := nj b h1
    exact ⟨by simp only [Array.getElem?_setIfInBounds_ne this]; exact h1, T', by simp only [Array.getElem?_setIfInBounds_ne this]; exact h2⟩
  · intro b hbj
    obtain ⟨h1, h2⟩ := hi.keep b hbj
    have := nj b h1
    exact ⟨by simp only [Array.getElem?_setIfInBounds_ne this]; exact h1, by simp only [Array.getElem?_setIfInBounds_ne this]; exact h2⟩
theorem Ents.nil {kd : IntKind} : Ents kd #[] 0 [] := ⟨rfl, by simp, by simp, by simp⟩
theorem Ents.push {kd : IntKind} {es : Array MapEntry} {c : Nat} {f : List (Int × Value)} (he : Ents kd es c f) {key : Int} {v : Value} (hk : f.lookup key = none) :
    Ents kd (es.push ⟨.int kd key, v, c⟩) (c + 1) (f ++ [(key, v)]) := by
  refine ⟨?_, ?_, ?_, ?_⟩
  · simp [he.all]
  · rw [Array.toList_push, List.map_append, List.nodup_append]
    refine ⟨he.born, by simp, ?_⟩
    intro a ha b hb
    simp only [List.map_cons, List.map_nil, List.mem_singleton] at hb
    obtain ⟨e, he', rfl⟩ := List.mem_map.1 ha
    have := he.clock e he'
    omega
  · intro e hm
    rw [Array.toList_push, List.mem_append] at hm
    rcases hm with hm | hm
    · have := he.clock e hm; omega
    · simp only [List.mem_singleton] at hm; subst hm; exact Nat.lt_succ_self _
  · rw [List.map_append, List.nodup_append]
    refine ⟨he.keys, by simp, ?_⟩
    intro a ha b hb
    simp only [List.map_cons, List.map_nil, List.mem_singleton] at hb
    subst hb
    intro e; subst e
    exact aeD hk ha
theorem Ents.len {kd : IntKind} {es : Array MapEntry} {c : Nat} {f : List (Int × Value)} (he : Ents kd es c f) : es.size = f.length := by
  have := congrArg List.length he.all
  simpa using this
theorem Ents.at {kd : IntKind} {es : Array MapEntry} {c : Nat} {f : List (Int × Value)} (he : Ents kd es c f) {i : Nat} {key : Int} {v : Value} (hf : f[i]? = some (key, v)) : ∃ e, es[i]? = some e ∧ e.key = .int kd key ∧ e.val = v := by
  have hl := he.len
  obtain ⟨hi, hv⟩ := List.getElem?_eq_some_iff.1 hf
  have hi' : i < es.size := by omega
  have := congrArg (fun l => l[i]?) he.all
  simp only [List.getElem?_map, hf, Option.map_some, Array.getElem?_toList, Array.getElem?_eq_getElem hi', Option.some.injEq, Prod.mk.injEq] at this
  exact ⟨es[i], Array.getElem?_eq_getElem hi', this.1, this.2⟩
theorem Ents.set {kd : IntKind} {es : Array MapEntry} {c : Nat} {f : List (Int × Value)} (he : Ents kd es c f) {i : Nat} {key : Int} {v u : Value} (hf : f[i]? = some (key, v)) {g : MapEntry → MapEntry}
    (hg : ∀ e, e.key = .int kd key → (g e).key = .int kd key ∧ (g e).val = u ∧ (g e).born = e.born) : Ents kd (es.modify i g) c (f.set i (key, u)) := by
  obtain ⟨e0, h1, h2, h3⟩ := he.at hf
  obtain ⟨hi, hv⟩ := List.getElem?_eq_some_iff.1 hf
  have hl := he.len
  have hb : (es.modify i g).toList.map (·.born) = es.toList.map (·.born) := by
    apply List.ext_getElem?
    intro j
    simp only [List.getElem?_map, Array.getElem?_toList, Array.getElem?_modify]
    by_cases e : i = j
    · subst e; simp [h1, (hg e0 h2).2.2]
    · simp [e]
  refine ⟨?_, by rw [hb]; exact he.born, ?_, ?_⟩
  · apply List.ext_getElem?
    intro j
    have hj := congrArg (fun l => l[j]?) he.all
    simp only [List.getElem?_map, Array.getElem?_toList] at hj ⊢
    rw [Array.getElem?_modify, List.getElem?_set]
    by_cases e : i = j
    · subst e
      simp [h1, hi, (hg e0 h2).1, (hg e0 h2).2.1]
    · simp only [e, if_false]; exact hj
  · intro e hm
    have : e.born ∈ (es.modify i g).toList.map (·.born) := List.mem_map_of_mem hm
    rw [hb] at this
    obtain ⟨e', h', h''⟩ := List.mem_map.1 this
    have := he.clock e' h'
    omega
  · have : (f.set i (key, u)).map (·.1) = f.map (·.1) := by
      apply List.ext_getElem?
      intro j
      rw [List.getElem?_map, List.getElem?_map, List.getElem?_set]
      by_cases e : i = j
      · subst e; simp [hi, hf]; rw [hv]
      · simp [e]
    rw [this]; exact he.keys
theorem Eff.newM {t : Nat} {k : Option Nat → Heap → Prop} (hop : o.op = .makeMap t none) (H : Lift.newM h.m k) :
    Eff P n B L h o (fun v h' => ∃ r m, v = Value.map r ∧ h' = ⟨m, h.pv⟩ ∧ k r m) := by
  intro ac w ha hw next Q hn
  have : (execOp ac.eval o).run P w = .ok (.value (.map (some h.m.size))) { w with heap := w.heap.push (.map #[] 0) } := by
    simp [execOp, hop, Instr.makeMap, newObj, Sem.run, Result.andThen, hw.rel.size]
  unfold Oper.wp
  rw [this]
  exact hn _ _ _ (hw.push ⟨rfl, rfl, rfl, (by first | exact Nat.le_refl _ | exact Nat.le_succ _ | (simp [World.drew]; done))⟩ rfl) ⟨_, _, rfl, rfl, H⟩
theorem Eff.setM {α : Type} {t kt e : Nat} {x i y : Operand} {kd : IntKind} {toV : α → Value} {m : Option Nat} {key : Int} {v : α} {k : Heap → Prop} (hT : TTab.Ok P T) (hop : o.op = .mapUpdate t x i y) (ht : T.desc t = some (.map kt e)) (hk : T.desc kt = some (.int kd))
    (hx : L.ev x = some (.map m)) (hi : L.ev i = some (.int kd key)) (hy : L.ev y = some (toV v)) (H : Lift.setM kd toV m key v h.m k) :
    Eff P n B L h o (fun _ h' => ∃ m, h' = ⟨m, h.pv⟩ ∧ k m) := by
  intro ac w ha hw next Q hn
  obtain ⟨r, f, rfl, ⟨es, c, h1, h2⟩, hk'⟩ := H
  have hH := hw.rel.block h1 iL
  have hl := oP (vals toV f) key 0
  cases hq : tG (vals toV f) key 0 with
  | none =>
    rw [hq] at hl
    have hl : (vals toV f).lookup key = none := hl.symm
    have hrun : (execOp ac.eval o).run P w = .ok .skip { w with heap := w.heap.setIfInBounds r (.map (es.push ⟨.int kd key, toV v, c⟩) (c + 1)) } := by
      simp [execOp, hop, ha.eval hx, ha.eval hi, ha.eval hy, Instr.mapUpdate, TTab.desc_run hT ht, Result.andThen, fG hH, fK hT hk, jD hT hk h2, hq, mA hH]
    unfold Oper.wp
    rw [hrun]
    refine hn _ _ _ (hw.setMap h1) ⟨_, rfl, hk' _ _ ?_⟩
    rw [acU, ajR hl]
    exact h2.push hl
  | some p =>
    obtain ⟨j, u⟩ := p
    obtain ⟨_, f1, f2⟩ := ahj _ _ _ _ _ hq
    obtain ⟨e0, g1, g2, g3⟩ := h2.at f1
    simp only [Nat.sub_zero] at f1 g1 f2
    have hrun : (execOp ac.eval o).run P w = .ok .skip { w with heap := w.heap.setIfInBounds r (.map (es.modify j fun e => { e with key := .int kd key, val := toV v }) c) } := by
      simp [execOp, hop, ha.eval hx, ha.eval hi, ha.eval hy, Instr.mapUpdate, TTab.desc_run hT ht, Result.andThen, fG hH, fK hT hk, jD hT hk h2, hq, mA hH, g1, g2, acV]
    unfold Oper.wp
    rw [hrun]
    refine hn _ _ _ (hw.setMap h1) ⟨_, rfl, hk' _ _ ?_⟩
    rw [acU, f2]
    exact h2.set f1 (fun e _ => ⟨rfl, rfl, rfl⟩)
end
section
variable {P : Program} {T : TTab} {n : Nat} {L : Frm} {m0 : Heap} {pv0 : List (Nat × List Value)} {o : Oper} {B : Base}
theorem EffX.newM {t : Nat} {k : Option Nat → Heap → Prop} (hop : o.op = .makeMap t none) (H : Lift.newM m0 k) :
    Eff P n B L ⟨m0, pv0⟩ o (fun v h' => ∃ r m, v = Value.map r ∧ h' = ⟨m, pv0⟩ ∧ k r m) := Eff.newM (h := ⟨m0, pv0⟩) hop H
theorem EffX.setM {α : Type} {t kt e : Nat} {x i y : Operand} {kd : IntKind} {toV : α → Value} {m : Option Nat} {key : Int} {v : α} {k : Heap → Prop} (hT : TTab.Ok P T) (hop : o.op = .mapUpdate t x i y) (ht : T.desc t = some (.map kt e)) (hk : T.desc kt = some (.int kd))
    (hx : L.ev x = some (.map m)) (hi : L.ev i = some (.int kd key)) (hy : L.ev y = some (toV v)) (H : Lift.setM kd toV m key v m0 k) :
    Eff P n B L ⟨m0, pv0⟩ o (fun _ h' => ∃ m, h' = ⟨m, pv0⟩ ∧ k m) := Eff.setM (h := ⟨m0, pv0⟩) hT hop ht hk hx hi hy H
end
end Go.Lift

namespace Go.Lift
open Go
abbrev K2 := Int × Int
def pk (kd : IntKind) (k : K2) : Value := .agg #[.int kd k.1, .int kd k.2]
abbrev KeyD (T : TTab) (kt : Nat) (kd : IntKind) : Prop := ∃ e, T.desc kt = some (.array 2 e) ∧ T.desc e = some (.int kd) ∧ T.size e = some 1
theorem amf {kd : IntKind} {a b : K2} (h : pk kd a = pk kd b) : a = b := by
  unfold pk at h
  simp only [Value.agg.injEq, Array.mk.injEq, List.cons.injEq, Value.int.injEq, true_and, and_true] at h
  exact Prod.ext h.1 h.2
structure EntsP (kd : IntKind) (es : Array MapEntry) (c : Nat) (f : List (K2 × Value)) : Prop where
  all : es.toList.map (fun e => (e.key, e.val)) = f.map (fun p => (pk kd p.1, p.2))
  born : (es.toList.map (·.born)).Nodup
  clock : ∀ e ∈ es.toList, e.born < c
  keys : (f.map (·.1)).Nodup
def aiX (kd : IntKind) (h : Heap) (x : Option Nat) (f : List (K2 × Value)) : Prop :=
  match x with
  | none => f = []
  | some r => ∃ es c, h[r]? = some (.map es c) ∧ EntsP kd es c f
def gS {α : Type} (toV : α → Value) (f : List (K2 × α)) : List (K2 × Value) := f.map fun p => (p.1, toV p.2)
def tT {α : Type} : List (K2 × α) → K2 → α → List (K2 × α)
  | [], k, v => [(k, v)]
  | p :: r, k, v => if k == p.1 then (p.1, v) :: r else p :: tT r k v
def sW {α : Type} (f : List (K2 × α)) (k : K2) (v : α) : List (K2 × α) := if (f.lookup k).isSome then f else f ++ [(k, v)]
def abb {α : Type} (kd : IntKind) (toV : α → Value) (zero : α) (x : Option Nat) (key : K2) (h : Heap) (k : α × Bool → Prop) : Prop :=
  ∃ (f : List (K2 × α)) (r : α × Bool), aiX kd h x (gS toV f) ∧ (match f.lookup key with | some v => (v, true) | none => (zero, false)) = r ∧ k r
def af7 (kd : IntKind) (es : Array MapEntry) (key : K2) (st : Int) : Prop := ∃ (i : Nat) (e : MapEntry), es[i]? = some e ∧ e.key = pk kd key ∧ (e.born : Int) = st
def aiO {α : Type} (kd : IntKind) (toV : α → Value) (zero : α) (x : Option Nat) (key : K2) (h : Heap) (k : α × Int → Heap → Prop) : Prop :=
  ∃ (r : Nat) (f : List (K2 × α)), x = some r ∧ aiX kd h (some r) (gS toV f) ∧ ∀ es c st, EntsP kd es c (gS toV (sW f key zero)) → af7 kd es key st → k ((f.lookup key).getD zero, st) (h.setIfInBounds r (.map es c))
def ahV {α : Type} (kd : IntKind) (toV : α → Value) (x : Option Nat) (st : Int) (v : α) (h : Heap) (k : Heap → Prop) : Prop :=
  ∃ (r : Nat) (es : Array MapEntry) (c : Nat) (f : List (K2 × α)) (key : K2), x = some r ∧ h[r]? = some (.map es c) ∧ EntsP kd es c (gS toV f) ∧ af7 kd es key st ∧
    ∀ es', EntsP kd es' c (gS toV (tT f key v)) → k (h.setIfInBounds r (.map es' c))
section
variable {α : Type} {toV : α → Value}
theorem adV (f : List (K2 × α)) (k j : K2) (v : α) : (tT f k v).lookup j = if j == k then some v else f.lookup j := by
  induction f with
  | nil => simp only [tT, List.lookup]; split <;> simp_all
  | cons p r ih =>
    obtain ⟨a, b⟩ := p
    simp only [tT]
    by_cases e : k = a
    · subst e
      simp only [beq_self_eq_true, if_true, List.lookup]
      by_cases e2 : j = k
      · subst e2; simp
      · have : (j == k) = false := by simpa using e2
        simp [this]
    · have e0 : (k == a) = false := by simpa using e
      rw [e0]
      simp only [Bool.false_eq_true, if_false, List.lookup]
      by_cases e2 : j = a
      · subst e2
        have : (j == k) = false := by simpa using fun h => e h.symm
        simp [this]
      · have : (j == a) = false := by simpa using e2
        simp [this, ih]
theorem yk (f : List (K2 × α)) (k j : K2) (v : α) (hk : f.lookup k = none) : (f ++ [(k, v)]).lookup j = if j == k then some v else f.lookup j := by
  induction f with
  | nil => simp only [List.nil_append, List.lookup]; split <;> simp_all
  | cons p r ih =>
    obtain ⟨a, b⟩ := p
    simp only [List.lookup] at hk
    split at hk
    · cases hk
    · rename_i h1
      simp only [List.cons_append, List.lookup, ih hk]
      by_cases e2 : j = a
      · subst e2
        have : (j == k) = false := by
          have := h1
          simp at this ⊢
          exact fun h => this h.symm
        simp [this]
      · have : (j == a) = false := by simpa using e2
        simp [this]
theorem uY (f : List (K2 × α)) (k j : K2) (v : α) : (sW f k v).lookup j = if j == k then some ((f.lookup k).getD v) else f.lookup j := by
  unfold sW
  cases hl : f.lookup k with
  | none =>
    simp only [Option.isSome_none, Bool.false_eq_true, if_false, Option.getD_none]
    exact yk f k j v hl
  | some u =>
    simp only [Option.isSome_some, if_true, Option.getD_some]
    by_cases e : j = k
    · subst e; simp [hl]
    · have : (j == k) = false := by simpa using e
      simp [this]
theorem vd {f : List (K2 × α)} {k : K2} (h : f.lookup k = none) : k ∉ f.map (·.1) := by
  induction f with
  | nil => simp
  | cons p r ih =>
    obtain ⟨a, b⟩ := p
    simp only [List.lookup] at h
    split at h
    · cases h
    · rename_i h1
      simp only [List.map_cons, List.mem_cons, not_or]
      exact ⟨by simpa using h1, ih h⟩
def mD : List (K2 × α) → K2 → Nat → Option (Nat × α)
  | [], _, _ => none
  | p :: r, k, i => if k == p.1 then some (i, p.2) else mD r k (i + 1)
theorem nK (f : List (K2 × α)) (k : K2) : ∀ i, (mD f k i).map (·.2) = f.lookup k := by
  induction f with
  | nil => intro i; rfl
  | cons p r ih =>
    intro i
    obtain ⟨a, b⟩ := p
    simp only [mD, List.lookup]
    by_cases e : k = a
    · subst e; simp
    · have : (k == a) = false := by simpa using e
      simp [this, ih]
theorem yG (f : List (K2 × α)) (k : K2) : ∀ i j v, mD f k i = some (j, v) → i ≤ j ∧ f[j - i]? = some (k, v) ∧ ∀ u, tT f k u = f.set (j - i) (k, u) := by
  induction f with
  | nil => intro i j v h; cases h
  | cons p r ih =>
    intro i j v h
    obtain ⟨a, b⟩ := p
    simp only [mD] at h
    by_cases e : k = a
    · subst e
      simp only [beq_self_eq_true, if_true, Option.some.injEq, Prod.mk.injEq] at h
      obtain ⟨rfl, rfl⟩ := h
      refine ⟨Nat.le_refl _, by simp, fun u => ?_⟩
      simp [tT]
    · have e0 : (k == a) = false := by simpa using e
      rw [e0] at h
      simp only [Bool.false_eq_true, if_false] at h
      obtain ⟨h1, h2, h3⟩ := ih _ _ _ h
      have hj : j - i = (j - (i + 1)) + 1 := by omega
      refine ⟨by omega, by rw [hj, List.getElem?_cons_succ]; exact h2, fun u => ?_⟩
      rw [hj, List.set_cons_succ]
      simp only [tT, e0, Bool.false_eq_true, if_false, h3 u]
theorem agq (f : List (K2 × α)) (k : K2) (v : α) : gS toV (tT f k v) = tT (gS toV f) k (toV v) := by
  induction f with
  | nil => rfl
  | cons p r ih =>
    simp only [gS, tT, List.map_cons]
    split
    · rfl
    · simp only [List.map_cons, List.cons.injEq, true_and]; exact ih
theorem jW (f : List (K2 × α)) (k : K2) : (gS toV f).lookup k = (f.lookup k).map toV := by
  induction f with
  | nil => rfl
  | cons p r ih =>
    obtain ⟨a, b⟩ := p
    simp only [gS, List.map_cons, List.lookup]
    split
    · rfl
    · exact ih
theorem aaZ (f : List (K2 × α)) (k : K2) (v : α) : gS toV (sW f k v) = sW (gS toV f) k (toV v) := by
  unfold sW
  rw [jW]
  cases f.lookup k <;> simp [gS]
end
section
variable {P : Program} {T : TTab} {n : Nat} {L : Frm} {h : Hp} {o : Oper} {B : Base}
theorem sA (hT : TTab.Ok P T) {e : Nat} {kd : IntKind} (h2 : T.desc e = some (.int kd)) {cs : Array Value} {i : Nat} {v : Value} (hv : cs[i]? = some v) {w : World} : (part e cs i).run P w = .ok v w := by
  have hna : lN T e = true := by simp [lN, h2]
  simp [part, jC hT hna, hv, Result.andThen]
theorem agD (hT : TTab.Ok P T) {kt : Nat} {kd : IntKind} {a b : K2} {w : World} (hk : KeyD T kt kd) : ∀ d, (Op.equalIn (d + 2) kt (pk kd a) (pk kd b)).run P w = .ok (a == b) w := by
  intro d
  obtain ⟨e, h1, h2, h3⟩ := hk
  obtain ⟨a1, a2⟩ := a
  obtain ⟨b1, b2⟩ := b
  have p0 : ∀ x y : Int, (part e #[Value.int kd x, Value.int kd y] 0).run P w = .ok (.int kd x) w := fun x y => sA hT h2 (by simp)
  have p1 : ∀ x y : Int, (part e #[Value.int kd x, Value.int kd y] 1).run P w = .ok (.int kd y) w := fun x y => sA hT h2 (by simp)
  have q : ∀ x y : Int, (Op.equalIn (d + 1) e (.int kd x) (.int kd y)).run P w = .ok (x == y) w := by
    intro x y
    simp [Op.equalIn, TTab.desc_run hT h2, Result.andThen]
  unfold pk
  rw [Op.equalIn]
  simp only [Sem.run_bind, TTab.desc_run hT h1, TTab.size_run hT h3, Result.andThen_ok]
  simp only [Std.Legacy.Range.forIn_eq_forIn_range', Std.Legacy.Range.size, Nat.sub_zero, Nat.add_sub_cancel, Nat.div_one, List.range'_succ, List.range'_zero, List.forIn_cons, List.forIn_nil]
  by_cases e1 : a1 = b1 <;> by_cases e2 : a2 = b2 <;> simp [p0, p1, q, e1, e2, Result.andThen]
open Instr in
theorem z3 (hT : TTab.Ok P T) {kt : Nat} {kd : IntKind} {key : K2} {w : World} (hk : KeyD T kt kd) : ∀ (l : List MapEntry) (f : List (K2 × Value)) (i : Nat), l.map (fun e => (e.key, e.val)) = f.map (fun p => (pk kd p.1, p.2)) →
    (findAsking kt (pk kd key) l i).run P w = .ok (mD f key i) w := by
  intro l
  induction l with
  | nil =>
    intro f i hf
    cases f with
    | nil => rfl
    | cons => simp at hf
  | cons e r ih =>
    intro f i hf
    cases f with
    | nil => simp at hf
    | cons p q =>
      simp only [List.map_cons, List.cons.injEq, Prod.mk.injEq] at hf
      obtain ⟨⟨h1, h2⟩, h3⟩ := hf
      unfold findAsking
      rw [h1]
      have he : (Op.equal kt (pk kd key) (pk kd p.1)).run P w = .ok (key == p.1) w := agD hT hk _
      simp only [Sem.run_bind, he, Result.andThen_ok, mD]
      by_cases e0 : key = p.1
      · subst e0; simp [h2]
      · have e0 : (key == p.1) = false := by simpa using e0
        simp [e0, ih q (i + 1) h3]
open Instr in
theorem lZ (hT : TTab.Ok P T) {kt : Nat} {kd : IntKind} {key : K2} {es : Array MapEntry} {c : Nat} {f : List (K2 × Value)} {w : World} (hk : KeyD T kt kd) (he : EntsP kd es c f) :
    (findKey kt (pk kd key) es.toList).run P w = .ok (mD f key 0) w := by
  obtain ⟨e, h1, h2, h3⟩ := hk
  have ha := he.all
  unfold findKey
  simp only [Sem.run_bind, TTab.desc_run hT h1, Result.andThen_ok]
  cases hl : es.toList with
  | nil =>
    rw [hl] at ha
    cases f with
    | nil => simp [findNow, mD]
    | cons => simp at ha
  | cons x r =>
    have : findNow (.array 2 e) (pk kd key) (x :: r) 0 = none := by simp [findNow, sameNow]
    rw [this]
    simp only
    rw [hl] at ha
    exact z3 hT ⟨e, h1, h2, h3⟩ _ _ _ ha
open Instr in
theorem abB (hT : TTab.Ok P T) {kt : Nat} {kd : IntKind} {key : K2} {w : World} (hk : KeyD T kt kd) : (findKey kt (pk kd key) []).run P w = .ok none w := by
  obtain ⟨e, h1, h2, h3⟩ := hk
  simp [findKey, TTab.desc_run hT h1, Result.andThen, findNow]
open Instr in
theorem jd (hT : TTab.Ok P T) {kt : Nat} {kd : IntKind} {key : K2} {b : Bool} {w : World} (hk : KeyD T kt kd) : (checkKey b 10000 kt (pk kd key)).run P w = .ok () w := by
  obtain ⟨e, h1, h2, h3⟩ := hk
  obtain ⟨a1, a2⟩ := key
  have p0 : ∀ x y : Int, (part e #[Value.int kd x, Value.int kd y] 0).run P w = .ok (.int kd x) w := fun x y => sA hT h2 (by simp)
  have p1 : ∀ x y : Int, (part e #[Value.int kd x, Value.int kd y] 1).run P w = .ok (.int kd y) w := fun x y => sA hT h2 (by simp)
  have q : ∀ x : Int, (checkKey b (9998 + 1) e (.int kd x)).run P w = .ok () w := fun x => sP hT h2 _
  unfold pk
  rw [show (10000 : Nat) = 9999 + 1 from rfl, checkKey]
  simp only [Sem.run_bind, TTab.desc_run hT h1, Result.andThen_ok]
  simp only [Std.Legacy.Range.forIn_eq_forIn_range', Std.Legacy.Range.size, Nat.sub_zero, Nat.add_sub_cancel, Nat.div_one, List.range'_succ, List.range'_zero, List.forIn_cons, List.forIn_nil]
  simp [TTab.size_run hT h3, p0, p1, q, Result.andThen]
theorem Rel.mapEsP {H : Heap} (hr : Rel h H) {kd : IntKind} {x : Option Nat} {f : List (K2 × Value)} (hm : Lift.aiX kd h.m x f) : Lift.aiX kd H x f := by
  cases x with
  | none => exact hm
  | some r =>
    obtain ⟨es, c, h1, h2⟩ := hm
    exact ⟨es, c, hr.block h1 iL, h2⟩
theorem Quiet1.lookM1P {α : Type} {t kt e : Nat} {x i : Operand} {kd : IntKind} {toV : α → Value} {zero : α} {m : Option Nat} {key : K2} {f : List (K2 × α)} (hT : TTab.Ok P T) (hop : o.op = .lookup t x i false) (ht : T.desc t = some (.map kt e)) (hk : KeyD T kt kd) (hz : vi P e = some (toV zero))
    (hx : L.ev x = some (.map m)) (hi : L.ev i = some (pk kd key)) (hf : Lift.aiX kd h.m m (gS toV f)) {r : α × Bool} (hr : (match f.lookup key with | some v => (v, true) | none => (zero, false)) = r) : Quiet1 P n L h o (toV r.1) := by
  intro ac w ha hw
  have hm := hw.mapEsP hf
  have hl := nK (gS toV f) key 0
  rw [jW] at hl
  have hr1 : toV r.1 = match f.lookup key with | some v => toV v | none => toV zero := by subst hr; cases f.lookup key <;> rfl
  cases m with
  | none =>
    simp only [Lift.aiX] at hm
    have hf0 : f = [] := by cases f with | nil => rfl | cons => simp [gS] at hm
    subst hf0
    simp only [List.lookup] at hr
    subst hr
    simp [execOp, hop, ha.eval hx, ha.eval hi, Instr.lookup, TTab.desc_run hT ht, Result.andThen, jd hT hk, abB hT hk, nw hz]
  | some q =>
    obtain ⟨es, c, h1, h2⟩ := hm
    simp only [execOp, hop, ha.eval hx, ha.eval hi]
    cases hq : f.lookup key with
    | none =>
      rw [hq] at hl hr1
      have hn : mD (gS toV f) key 0 = none := by simpa using hl
      simp [Instr.lookup, TTab.desc_run hT ht, Result.andThen, fG h1, jd hT hk, lZ hT hk h2, hn, nw hz, hr1]
    | some v =>
      rw [hq] at hl hr1
      cases hn : mD (gS toV f) key 0 with
      | none => simp [hn] at hl
      | some p =>
        obtain ⟨a, b⟩ := p
        simp [hn] at hl
        simp [Instr.lookup, TTab.desc_run hT ht, Result.andThen, fG h1, jd hT hk, lZ hT hk h2, hn, hr1, hl]
theorem Quiet1.lookM1VP {α : Type} {t kt e : Nat} {x i : Operand} {kd : IntKind} {toV : α → Value} {zero : α} {m : Option Nat} {key : K2} {v : α} (hT : TTab.Ok P T) (hop : o.op = .lookup t x i false) (ht : T.desc t = some (.map kt e)) (hk : KeyD T kt kd) (hz : vi P e = some (toV zero))
    (hx : L.ev x = some (.map m)) (hi : L.ev i = some (pk kd key)) (H : Lift.abb kd toV zero m key h.m fun r_ => r_.1 = v) : Quiet1 P n L h o (toV v) := by
  obtain ⟨f, r, hf, hr, rfl⟩ := H
  exact Quiet1.lookM1P hT hop ht hk hz hx hi hf hr
theorem abC {kd : IntKind} {a : K2} {w : World} : (Instr.keyThatStays (pk kd a) (pk kd a)).run P w = .ok (pk kd a) w := by
  have : Instr.sameBits 10000 (pk kd a) (pk kd a) = true := by
    unfold pk
    rw [show (10000 : Nat) = 9999 + 1 from rfl, Instr.sameBits]
    simp [uL]
  simp [Instr.keyThatStays, this]
theorem agF {l : List K2} (hn : l.Nodup) {i j : Nat} {hi : i < l.length} {hj : j < l.length} (h : l[i] = l[j]) : i = j := by
  have hp := List.pairwise_iff_getElem.1 hn
  rcases Nat.lt_trichotomy i j with hlt | he | hlt
  · exact absurd h (hp i j hi hj hlt)
  · exact he
  · exact absurd h.symm (hp j i hj hi hlt)
theorem EntsP.push {kd : IntKind} {es : Array MapEntry} {c : Nat} {f : List (K2 × Value)} (he : EntsP kd es c f) {key : K2} {v : Value} (hk : f.lookup key = none) :
    EntsP kd (es.push ⟨pk kd key, v, c⟩) (c + 1) (f ++ [(key, v)]) := by
  refine ⟨?_, ?_, ?_, ?_⟩
  · simp [he.all]
  · rw [Array.toList_push, List.map_append, List.nodup_append]
    refine ⟨he.born, by simp, ?_⟩
    intro a ha b hb
    simp only [List.map_cons, List.map_nil, List.mem_singleton] at hb
    obtain ⟨e, he', rfl⟩ := List.mem_map.1 ha
    have := he.clock e he'
    omega
  · intro e hm
    rw [Array.toList_push, List.mem_append] at hm
    rcases hm with hm | hm
    · have := he.clock e hm; omega
    · simp only [List.mem_singleton] at hm; subst hm; exact Nat.lt_succ_self _
  · rw [List.map_append, List.nodup_append]
    refine ⟨he.keys, by simp, ?_⟩
    intro a ha b hb
    simp only [List.map_cons, List.map_nil, List.mem_singleton] at hb
    subst hb
    intro e; subst e
    exact vd hk ha
theorem EntsP.len {kd : IntKind} {es : Array MapEntry} {c : Nat} {f : List (K2 × Value)} (he : EntsP kd es c f) : es.size = f.length := by
  have := congrArg List.length he.all
  simpa using this
theorem EntsP.at {kd : IntKind} {es : Array MapEntry} {c : Nat} {f : List (K2 × Value)} (he : EntsP kd es c f) {i : Nat} {key : K2} {v : Value} (hf : f[i]? = some (key, v)) : ∃ e, es[i]? = some e ∧ e.key = pk kd key ∧ e.val = v := by
  have hl := he.len
  obtain ⟨hi, hv⟩ := List.getElem?_eq_some_iff.1 hf
  have hi' : i < es.size := by omega
  have := congrArg (fun l => l[i]?) he.all
  simp only [List.getElem?_map, hf, Option.map_some, Array.getElem?_toList, Array.getElem?_eq_getElem hi', Option.some.injEq, Prod.mk.injEq] at this
  exact ⟨es[i], Array.getElem?_eq_getElem hi', this.1, this.2⟩
theorem EntsP.set {kd : IntKind} {es : Array MapEntry} {c : Nat} {f : List (K2 × Value)} (he : EntsP kd es c f) {i : Nat} {key : K2} {v u : Value} (hf : f[i]? = some (key, v)) {g : MapEntry → MapEntry}
    (hg : ∀ e, e.key = pk kd key → (g e).key = pk kd key ∧ (g e).val = u ∧ (g e).born = e.born) : EntsP kd (es.modify i g) c (f.set i (key, u)) := by
  obtain ⟨e0, h1, h2, h3⟩ := he.at hf
  obtain ⟨hi, hv⟩ := List.getElem?_eq_some_iff.1 hf
  have hl := he.len
  have hb : (es.modify i g).toList.map (·.born) = es.toList.map (·.born) := by
    apply List.ext_getElem?
    intro j
    simp only [List.getElem?_map, Array.getElem?_toList, Array.getElem?_modify]
    by_cases e : i = j
    · subst e; simp [h1, (hg e0 h2).2.2]
    · simp [e]
  refine ⟨?_, by rw [hb]; exact he.born, ?_, ?_⟩
  · apply List.ext_getElem?
    intro j
    have hj := congrArg (fun l => l[j]?) he.all
    simp only [List.getElem?_map, Array.getElem?_toList] at hj ⊢
    rw [Array.getElem?_modify, List.getElem?_set]
    by_cases e : i = j
    · subst e
      simp [h1, hi, (hg e0 h2).1, (hg e0 h2).2.1]
    · simp only [e, if_false]; exact hj
  · intro e hm
    have : e.born ∈ (es.modify i g).toList.map (·.born) := List.mem_map_of_mem hm
    rw [hb] at this
    obtain ⟨e', h', h''⟩ := List.mem_map.1 this
    have := he.clock e' h'
    omega
  · have : (f.set i (key, u)).map (·.1) = f.map (·.1) := by
      apply List.ext_getElem?
      intro j
      rw [List.getElem?_map, List.getElem?_map, List.getElem?_set]
      by_cases e : i = j
      · subst e; simp [hi, hf]; rw [hv]
      · simp [e]
    rw [this]; exact he.keys
theorem aiQ {α : Type} {f : List (K2 × α)} {k : K2} {v u : α} (h : f.lookup k = some u) : sW f k v = f := by simp [sW, h]
theorem aiY {α : Type} {f : List (K2 × α)} {k : K2} {v : α} (h : f.lookup k = none) : sW f k v = f ++ [(k, v)] := by simp [sW, h]
theorem Eff.entryMP {α : Type} {t kt e : Nat} {x i : Operand} {kd : IntKind} {toV : α → Value} {zero : α} {m : Option Nat} {key : K2} {k : α × Int → Heap → Prop} (hT : TTab.Ok P T) (hop : o.op = .mapEntry t x i) (ht : T.desc t = some (.map kt e)) (hk : KeyD T kt kd) (hz : vi P e = some (toV zero))
    (hx : L.ev x = some (.map m)) (hi : L.ev i = some (pk kd key)) (H : Lift.aiO kd toV zero m key h.m k) :
    Eff P n B L h o (fun v h' => ∃ (r : α × Int) (m : Heap), v = Value.tuple #[toV r.1, .int .i64 r.2] ∧ h' = ⟨m, h.pv⟩ ∧ k r m) := by
  intro ac w ha hw next Q hn
  obtain ⟨r, f, rfl, ⟨es, c, h1, h2⟩, hk'⟩ := H
  have hH := hw.rel.block h1 iL
  have hl := nK (gS toV f) key 0
  rw [jW] at hl
  cases hq : mD (gS toV f) key 0 with
  | none =>
    rw [hq] at hl
    have hl1 : f.lookup key = none := by cases hf : f.lookup key <;> simp_all
    have hl2 : (gS toV f).lookup key = none := by rw [jW, hl1]; rfl
    have hrun : (execOp ac.eval o).run P w = .ok (.value (.tuple #[toV zero, .int .i64 (c : Int)])) { w with heap := w.heap.setIfInBounds r (.map (es.push ⟨pk kd key, toV zero, c⟩) (c + 1)) } := by
      simp [execOp, hop, ha.eval hx, ha.eval hi, Instr.mapEntry, TTab.desc_run hT ht, Result.andThen, fG hH, jd hT hk, lZ hT hk h2, hq, mA hH, nw hz, goInt]
    unfold Oper.wp
    rw [hrun]
    refine hn _ _ _ (hw.setMap h1) ⟨_, _, ?_, rfl, hk' _ _ (c : Int) ?_ ?_⟩
    · simp [hl1]
    · rw [aaZ, aiY hl2]; exact h2.push hl2
    · exact ⟨es.size, ⟨pk kd key, toV zero, c⟩, by simp, rfl, rfl⟩
  | some p =>
    obtain ⟨j, u⟩ := p
    obtain ⟨_, f1, f2⟩ := yG _ _ _ _ _ hq
    obtain ⟨e0, g1, g2, g3⟩ := h2.at f1
    simp only [Nat.sub_zero] at f1 g1 f2
    rw [hq] at hl
    cases hf : f.lookup key with
    | none => simp [hf] at hl
    | some b =>
    simp only [hf, Option.map_some, Option.some.injEq] at hl
    have hl2 : (gS toV f).lookup key = some (toV b) := by rw [jW, hf]; rfl
    have hrun : (execOp ac.eval o).run P w = .ok (.value (.tuple #[u, .int .i64 (e0.born : Int)])) { w with heap := w.heap.setIfInBounds r (.map (es.modify j fun e => { e with key := pk kd key }) c) } := by
      simp [execOp, hop, ha.eval hx, ha.eval hi, Instr.mapEntry, TTab.desc_run hT ht, Result.andThen, fG hH, jd hT hk, lZ hT hk h2, hq, mA hH, g1, g2, abC, goInt]
    unfold Oper.wp
    rw [hrun]
    refine hn _ _ _ (hw.setMap h1) ⟨_, _, ?_, rfl, hk' _ _ (e0.born : Int) ?_ ?_⟩
    · simp [hf, hl]
    · rw [aaZ, aiQ hl2]
      have h3 : ∀ e, e.key = pk kd key → ({ e with key := pk kd key } : MapEntry) = e := by intro e he; cases e; simp_all
      have : es.modify j (fun e => { e with key := pk kd key }) = es := by
        apply Array.ext_getElem?
        intro i
        rw [Array.getElem?_modify]
        by_cases ei : j = i
        · subst ei; simp [g1, h3 _ g2]
        · simp [ei]
      rw [this]; exact h2
    · refine ⟨j, { e0 with key := pk kd key }, ?_, rfl, rfl⟩
      simp [Array.getElem?_modify, g1]
theorem Eff.entrySP {α : Type} {t : Nat} {x i y : Operand} {kd : IntKind} {toV : α → Value} {m : Option Nat} {st : Int} {v : α} {k : Heap → Prop} (hop : o.op = .entryStore t x i y)
    (hx : L.ev x = some (.map m)) (hi : L.ev i = some (.int .i64 st)) (hy : L.ev y = some (toV v)) (H : Lift.ahV kd toV m st v h.m k) :
    Eff P n B L h o (fun _ h' => ∃ m, h' = ⟨m, h.pv⟩ ∧ k m) := by
  intro ac w ha hw next Q hn
  obtain ⟨r, es, c, f, key, rfl, h1, h2, ⟨j, e0, g1, g2, g3⟩, hk'⟩ := H
  have hH := hw.rel.block h1 iL
  have hjl := (Array.getElem?_eq_some_iff.1 g1)
  obtain ⟨hj, hje⟩ := hjl
  have hfind : es.findIdx? (fun e => (e.born : Int) == st) = some j := by
    rw [Array.findIdx?_eq_some_iff_getElem]
    refine ⟨hj, by rw [hje]; simpa using g3, ?_⟩
    intro i hij hc
    have hc : ((es[i].born : Nat) : Int) = st := by simpa using hc
    have hb : es[i].born = e0.born := by omega
    have l1 : i < es.toList.length := by simp; omega
    have l2 : j < es.toList.length := by simpa using hj
    have h5 := List.pairwise_iff_getElem.1 h2.born i j (by simp; omega) (by simpa using hj) hij
    simp only [List.getElem_map, Array.getElem_toList, hje] at h5
    exact h5 hb
  have hfl := h2.len
  have hfj : ∃ u, (gS toV f)[j]? = some (key, u) := by
    have h5 := congrArg (fun l => l[j]?) h2.all
    have hjf : j < (gS toV f).length := by omega
    simp only [List.getElem?_map, Array.getElem?_toList, g1, Option.map_some, List.getElem?_eq_getElem hjf, Option.some.injEq, Prod.mk.injEq] at h5
    have h6 : (gS toV f)[j].1 = key := amf (h5.1.symm.trans g2)
    exact ⟨(gS toV f)[j].2, by rw [List.getElem?_eq_getElem hjf, ← h6]⟩
  obtain ⟨u, hfj⟩ := hfj
  have hrun : (execOp ac.eval o).run P w = .ok .skip { w with heap := w.heap.setIfInBounds r (.map (es.modify j fun e => { e with val := toV v }) c) } := by
    simp [execOp, hop, ha.eval hx, ha.eval hi, ha.eval hy, Instr.entryStore, asInt, asIntOf, Result.andThen, fG hH, hfind, mA hH]
  unfold Oper.wp
  rw [hrun]
  refine hn _ _ _ (hw.setMap h1) ⟨_, rfl, hk' _ ?_⟩
  have hu : tT (gS toV f) key (toV v) = (gS toV f).set j (key, toV v) := by
    cases hq : mD (gS toV f) key 0 with
    | none =>
      have h6 := nK (gS toV f) key 0
      rw [hq] at h6
      have h7 := vd h6.symm
      exact absurd (List.mem_map_of_mem (f := (·.1)) (List.mem_of_getElem? hfj)) h7
    | some p =>
      obtain ⟨i, u'⟩ := p
      obtain ⟨_, f1, f2⟩ := yG _ _ _ _ _ hq
      simp only [Nat.sub_zero] at f1 f2
      rw [f2]
      have hi := List.getElem?_eq_some_iff.1 f1
      have hj' := List.getElem?_eq_some_iff.1 hfj
      have : i = j := by
        have n1 := h2.keys
        obtain ⟨l1, e1⟩ := hi
        obtain ⟨l2, e2⟩ := hj'
        have : ((gS toV f).map (·.1))[i]'(by simpa using l1) = ((gS toV f).map (·.1))[j]'(by simpa using l2) := by simp [e1, e2]
        exact agF n1 this
      rw [this]
  rw [agq, hu]
  exact h2.set hfj (fun e he => ⟨he, rfl, rfl⟩)
end
section
variable {P : Program} {T : TTab} {n : Nat} {L : Frm} {m0 : Heap} {pv0 : List (Nat × List Value)} {o : Oper} {B : Base}
theorem EffX.entryMP {α : Type} {t kt e : Nat} {x i : Operand} {kd : IntKind} {toV : α → Value} {zero : α} {m : Option Nat} {key : K2} {k : α × Int → Heap → Prop} (hT : TTab.Ok P T) (hop : o.op = .mapEntry t x i) (ht : T.desc t = some (.map kt e)) (hk : KeyD T kt kd) (hz : vi P e = some (toV zero))
    (hx : L.ev x = some (.map m)) (hi : L.ev i = some (pk kd key)) (H : Lift.aiO kd toV zero m key m0 k) :
    Eff P n B L ⟨m0, pv0⟩ o (fun v h' => ∃ (r : α × Int) (m : Heap), v = Value.tuple #[toV r.1, .int .i64 r.2] ∧ h' = ⟨m, pv0⟩ ∧ k r m) := Eff.entryMP (h := ⟨m0, pv0⟩) hT hop ht hk hz hx hi H
theorem EffX.entrySP {α : Type} {t : Nat} {x i y : Operand} {kd : IntKind} {toV : α → Value} {m : Option Nat} {st : Int} {v : α} {k : Heap → Prop} (hop : o.op = .entryStore t x i y)
    (hx : L.ev x = some (.map m)) (hi : L.ev i = some (.int .i64 st)) (hy : L.ev y = some (toV v)) (H : Lift.ahV kd toV m st v m0 k) :
    Eff P n B L ⟨m0, pv0⟩ o (fun _ h' => ∃ m, h' = ⟨m, pv0⟩ ∧ k m) := Eff.entrySP (h := ⟨m0, pv0⟩) hop hx hi hy H
end
end Go.Lift

namespace Go.Lift
open Go
section
variable {P : Program} {T : TTab} {n : Nat} {L : Frm} {h : Hp} {o : Oper} {B : Base}
def ajr (s : Sl) (h : Heap) (u : ByteArray) : Prop := yM s h fun v => v = u
theorem Quiet1.sliceArr {t e sz len : Nat} {x : Operand} {a : Addr} (hT : TTab.Ok P T) (hop : o.op = .slice t x none none none) (ht : T.desc t = some (.array len e)) (hs : T.size e = some sz)
    (hx : L.ev x = some (.pointer (some a))) : Quiet1 P n L h o (.slice (some a) len len) := by
  intro ac w ha hw
  have ha0 : a.add 0 = a := by simp [Addr.add]
  simp [execOp, hop, ha.eval hx, Instr.sliceAt, Instr.sureAddr, Instr.sliceBounds, Result.andThen, TTab.desc_run hT ht, TTab.size_run hT hs, ha0]
def amB (P : Program) (t : Nat) (name : String) : Option FuncId :=
  (P.info? t).bind fun i => (i.methods.find? (·.name == name)).bind fun m => match m.path.size == 0, m.func with
    | true, some (f, false) => some f
    | _, _ => none
def anp (T : TTab) (t : Nat) : Bool := match T.desc t with
  | some (.pointer _) => false
  | some _ => true
  | none => false
end
section
variable {P : Program} {T : TTab} {n : Nat} {L : Frm} {m0 : Heap} {pv0 : List (Nat × List Value)} {o : Oper} {B : Base}
end
end Go.Lift

namespace Go.Lift
open Go
def akU (sz bytes : Nat) (z : List Value) (s : Sl) (n : Int) (h : Heap) (k : Sl → Heap → Prop) : Prop :=
  (0 < n ∧ n ≤ 70368744177664 ∧ (s.len + n.toNat) * bytes ≤ 2 ^ 46) ∧ bT (List.flatten (List.replicate n.toNat z)) = true ∧
    (s.len + n.toNat ≤ s.cap → match s.a with
      | none => k ⟨s.a, s.len + n.toNat, s.cap⟩ h
      | some a => lX h (a.add (s.len * sz)) (List.flatten (List.replicate n.toNat z)).length 0 ∧ k ⟨s.a, s.len + n.toNat, s.cap⟩ (ip h (a.add (s.len * sz)) (List.flatten (List.replicate n.toNat z)) 0)) ∧
    (s.cap < s.len + n.toNat → ∃ old, cellsO? h s.a (s.len * sz) = some old ∧
      ∀ (cap : Nat) T (rest : List Value), s.len + n.toNat ≤ cap → rest.length = (cap - (s.len + n.toNat)) * sz →
        k ⟨some ⟨h.size, 0, none⟩, s.len + n.toNat, cap⟩ (h.push (.cells (old ++ List.flatten (List.replicate n.toNat z) ++ rest).toArray T (0, 0))))
section
variable {P : Program} {T : TTab} {n : Nat} {L : Frm} {h : Hp} {o : Oper} {B : Base}
theorem Eff.appendZ {t e u sz b : Nat} {tys : Array TypeId} {x y : Operand} {args : Array Operand} {z : List Value} {s : Sl} {m : Int} {kd : IntKind} {k : Sl → Heap → Prop} (hT : TTab.Ok P T) (hop : o.op = .call ⟨.builtin .append, args, tys⟩) (hargs : args.toList = [x, y]) (htys : tys.toList = [t, u])
    (ht : T.desc t = some (.slice e)) (hu : T.desc u = some (.int kd)) (hs : T.size e = some sz) (hb : T.bytes e = some b) (hz : T.zero e = some z) (hzl : z.length = sz) (hsz0 : 0 < sz)
    (hx : L.ev x = some (.slice s.a s.len s.cap)) (hy : L.ev y = some (.int .i64 m)) (hb1 : 1 ≤ b ∧ b ≤ 1024) (H : Lift.akU sz b z s m h.m k) :
    Eff P n B L h o (fun v h' => ∃ r m, v = Sl.toV r ∧ h' = ⟨m, h.pv⟩ ∧ k r m) := by
  intro ac w ha hw next Q hn
  have hsz := hw.rel.size
  have e1 := congrArg List.toArray hargs
  have e2 := congrArg List.toArray htys
  simp only [Array.toArray_toList] at e1 e2
  subst e1 e2
  obtain ⟨⟨hm0, hmm, hlen⟩, hone, hfit, hgrow⟩ := H
  obtain ⟨i, hi, hib⟩ := TTab.bytes_run hT hb w
  have hx' : ac.eval x = Sl.toV s := ha.eval hx
  have hy' : ac.eval y = .int .i64 m := ha.eval hy
  obtain ⟨N, rfl⟩ := Int.eq_ofNat_of_zero_le (Int.le_of_lt hm0)
  simp only [Int.ofNat_eq_natCast, Int.toNat_natCast] at *
  have hneed : s.len + N ≤ 2 ^ 46 := by
    have : (s.len + N) * 1 ≤ (s.len + N) * b := Nat.mul_le_mul_left _ hb1.1
    omega
  have hNb : N * b ≤ 2 ^ 46 := Nat.le_trans (Nat.mul_le_mul_right _ (by omega)) hlen
  have hw64 : IntKind.wrap .i64 (N : Int) = (N : Int) := by
    simp only [IntKind.wrap]
    simp [IntKind.bits, IntKind.signed]
    omega
  have hneg : ¬ ((N : Int) < 0) := by omega
  have hbig0 : ¬ ((N : Int) * (b : Int) > 281474976710656) := by
    have : ((N * b : Nat) : Int) ≤ 2 ^ 46 := by exact_mod_cast hNb
    have e : ((N * b : Nat) : Int) = (N : Int) * (b : Int) := by simp
    rw [e] at this
    omega
  obtain ⟨vz, hvz, hvzc⟩ := TTab.zero_run hT hz w
  have hvz' : vz.cells = z.toArray := by rw [← hvzc]
  have hzN := pe z N
  have hN0 : N ≠ 0 := by omega
  have hNs : N * sz ≠ 0 := Nat.ne_of_gt (Nat.mul_pos (by omega) hsz0)
  by_cases hf : s.len + N ≤ s.cap
  · have hk := hfit hf
    cases hsa : s.a with
    | none =>
      rw [hsa] at hk
      have : (execOp ac.eval o).run P w = .ok (.value (Sl.toV ⟨s.a, s.len + N, s.cap⟩)) w := by
        simp [execOp, hop, hx', hy', resolve, Go.invoke, builtin, Builtin.append_, Result.andThen, TTab.desc_run hT ht, TTab.desc_run hT hu, TTab.size_run hT hs, Sl.toV, asInt, asIntOf, hw64, hneg, hi, hib, hbig0, hf, hsa, hvz, hvz', hzN, hN0, Nat.ne_of_gt hsz0]
        rw [if_neg hNs]
      unfold Oper.wp
      rw [this]
      exact hn _ _ h hw ⟨_, h.m, rfl, rfl, by rw [hsa]; exact hk⟩
    | some a =>
      rw [hsa] at hk
      obtain ⟨hcan, hk⟩ := hk
      obtain ⟨w', hr, hh⟩ := mh (P := P) _ 0 h w hw hcan hone
      have : (execOp ac.eval o).run P w = .ok (.value (Sl.toV ⟨s.a, s.len + N, s.cap⟩)) w' := by
        simp [execOp, hop, hx', hy', resolve, Go.invoke, builtin, Builtin.append_, Result.andThen, TTab.desc_run hT ht, TTab.desc_run hT hu, TTab.size_run hT hs, Sl.toV, asInt, asIntOf, hw64, hneg, hi, hib, hbig0, hf, hsa, hvz, hvz', hzN, hN0, Nat.ne_of_gt hsz0, hr]
        rw [if_neg hNs]
        simp [hr]
      unfold Oper.wp
      rw [this]
      exact hn _ _ _ hh ⟨_, _, rfl, rfl, by rw [hsa]; exact hk⟩
  · have hk := hgrow (by omega)
    obtain ⟨old, hold, hk⟩ := hk
    have hcaps := aaM (s.len + N) s.cap (by omega)
    have hbig : ¬ Builtin.nextslicecap (s.len + N) s.cap * b > 2 ^ 48 := by
      have h1 : Builtin.nextslicecap (s.len + N) s.cap * b ≤ (2 * (s.len + N) + 768) * b := Nat.mul_le_mul_right _ hcaps
      have h2 : (2 * (s.len + N) + 768) * b = 2 * ((s.len + N) * b) + 768 * b := by rw [Nat.add_mul, Nat.mul_assoc]
      omega
    obtain ⟨c, hceq⟩ : ∃ c, (Question.appendCap (s.len + N) s.cap e).cut (w.tape w.drawn (Question.appendCap (s.len + N) s.cap e)) = c := ⟨_, rfl⟩
    have hc : s.len + N ≤ c := by rw [← hceq]; simp [Question.cut]
    have hforced : (Question.appendCap (s.len + N) s.cap e).forced = false := rfl
    have hold' := jK (P := P) (w := w.drew) (s := s) (size := sz) (m := s.len) (hw.rel.cellsO hold)
    obtain ⟨i', hi', hib'⟩ := TTab.bytes_run hT hb w.drew
    obtain ⟨v', hv', hvc'⟩ := TTab.zero_run hT hz w.drew
    have hvc'' : v'.cells = z.toArray := by rw [← hvc']
    have hz0 := pe z (c - (s.len + N))
    have hb0 : b ≠ 0 := by omega
    have hmax' : ¬ (9223372036854775807 < (s.len : Int) + (N : Int)) := by omega
    have : (execOp ac.eval o).run P w = .ok (.value (Sl.toV ⟨some ⟨h.m.size, 0, none⟩, s.len + N, c⟩))
        (w.drew.alloc (.cells (old ++ List.flatten (List.replicate N z) ++ List.flatten (List.replicate (c - (s.len + N)) z)).toArray e (0, 0))) := by
      simp [Sl.toV] at hold'
      have hbig' : ¬ 281474976710656 < Builtin.nextslicecap (s.len + N) s.cap * b := hbig
      simp [execOp, hop, hx', hy', resolve, Go.invoke, builtin, Builtin.append_, Result.andThen, TTab.desc_run hT ht, TTab.desc_run hT hu, TTab.size_run hT hs, Sl.toV, asInt, asIntOf, hw64, hneg, hbig0, hN0, Nat.ne_of_gt hsz0, hf, hi, hib, hbig', hb0, hforced, hceq, hi', hold', hv', hvc'', hz0, hzN, newRow, newObj, Sem.run, hsz, hmax']
      rw [if_neg hNs]
      simp [hv', hvc'', hz0, hsz]
    unfold Oper.wp
    rw [this]
    exact hn _ _ _ (hw.push ⟨rfl, rfl, rfl, (by first | exact Nat.le_refl _ | exact Nat.le_succ _ | (simp [World.drew]; done))⟩ rfl) ⟨_, _, rfl, rfl, hk c e _ hc (by rw [nr, hzl])⟩
variable {m0 : Heap} {pv0 : List (Nat × List Value)}
theorem EffX.appendZ {t e u sz b : Nat} {tys : Array TypeId} {x y : Operand} {args : Array Operand} {z : List Value} {s : Sl} {m : Int} {kd : IntKind} {k : Sl → Heap → Prop} (hT : TTab.Ok P T) (hop : o.op = .call ⟨.builtin .append, args, tys⟩) (hargs : args.toList = [x, y]) (htys : tys.toList = [t, u])
    (ht : T.desc t = some (.slice e)) (hu : T.desc u = some (.int kd)) (hs : T.size e = some sz) (hb : T.bytes e = some b) (hz : T.zero e = some z) (hzl : z.length = sz) (hsz0 : 0 < sz)
    (hx : L.ev x = some (.slice s.a s.len s.cap)) (hy : L.ev y = some (.int .i64 m)) (hb1 : 1 ≤ b ∧ b ≤ 1024) (H : Lift.akU sz b z s m m0 k) :
    Eff P n B L ⟨m0, pv0⟩ o (fun v h' => ∃ r m, v = Sl.toV r ∧ h' = ⟨m, pv0⟩ ∧ k r m) :=
  Eff.appendZ (h := ⟨m0, pv0⟩) hT hop hargs htys ht hu hs hb hz hzl hsz0 hx hy hb1 H
variable {Q : Exit → Act → World → Prop} {ops : Array Oper}
end
end Go.Lift

namespace Go.Lift
open Go
inductive FnV where
  | nil
  | mk (f : Nat) (first captured : List Value)
def FnV.toV : FnV → Value
  | .nil => .nilFunc
  | .mk f b c => .func (.func f) b.toArray c.toArray
theorem FnV.one_toV (v : FnV) : one (FnV.toV v) = true := by cases v <;> rfl
def dyn {α : Type} (m : (α → Heap → Prop) → Prop) (k : α → Heap → Prop) : Prop := m k
section
variable {P : Program} {T : TTab} {n : Nat} {L : Frm} {m0 : Heap} {pv0 : List (Nat × List Value)} {o : Oper} {B : Base}
theorem EffX.callFd {α : Type} {f : Nat} {x : Operand} {args : Array Operand} {tys : Array TypeId} {vs bs cs : List Value} {v : FnV} {toV : α → Value} {S : α → Heap → Prop}
    (hop : o.op = .call ⟨.value x, args, tys⟩) (hx : L.ev x = some (FnV.toV v)) (e : v = .mk f bs cs) (hcall : ∀ vs w, (callFunc f vs).run P w = .ok (.enter f vs) w)
    (hvs : jt L args.toList = some vs) (sh : Heap → Prop) (H0 : sh m0) (hl : ∀ w m, Rel ⟨m, []⟩ w.heap → sh m → Calls P f (bs ++ vs ++ cs).toArray w (Post ⟨w, m⟩ toV S)) :
    Eff P n B L ⟨m0, pv0⟩ o (fun v h' => ∃ r m, v = toV r ∧ h' = ⟨m, pv0⟩ ∧ S r m) := by
  subst e
  exact EffX.callF (f := f) (bs := bs) (cs := cs) hop hx hcall hvs sh H0 hl
end
end Go.Lift

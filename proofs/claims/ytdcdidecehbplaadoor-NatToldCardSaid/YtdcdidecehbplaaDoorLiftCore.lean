/- The frame of the lifting: frames as association lists, heaps, steps of regions and control, loops, calls. -/
import Derived.Tactics
import Derived.Deep.Quiet
set_option linter.unusedVariables false
set_option linter.unusedSimpArgs false
namespace Go.Lift
open Go

abbrev Heap := Array Obj
abbrev Frm := List (Nat × Value)

def Frm.get : Frm → Nat → Option Value
  | [], _ => none
  | (i, v) :: r, t => match Nat.beq i t with
    | true => some v
    | false => Frm.get r t

def Frm.ev (L : Frm) : Operand → Option Value
  | .tmp t => L.get t
  | .const v => some v
  | .global g => some (.pointer (some ⟨g, 0, none⟩))
  | .func f => some (.func (.func f) #[] #[])

def Frm.put (L : Frm) (d : Option Nat) (v : Value) : Frm :=
  match d with
  | some d => (d, v) :: L
  | none => L

/-- What the frame holds, as far as it is known. -/
def Agree (n : Nat) (L : Frm) (a : Act) : Prop :=
  a.tmps.size = n ∧ a.defers = [] ∧ ∀ t v, L.get t = some v → a.tmps[t]? = some v

structure Same (w w' : World) : Prop where
  os : w'.os = w.os
  out : w'.output = w.output
  tape : w'.tape = w.tape

theorem Same.refl (w : World) : Same w w := ⟨rfl, rfl, rfl⟩
theorem Same.trans {a b c : World} (h : Same a b) (k : Same b c) : Same a c :=
  ⟨k.os.trans h.os, k.out.trans h.out, k.tape.trans h.tape⟩

theorem Frm.get_cons (L : Frm) (d : Nat) (v : Value) (t : Nat) :
    Frm.get ((d, v) :: L) t = if d = t then some v else L.get t := by
  simp only [Frm.get]
  by_cases h : d = t
  · subst h; simp [Nat.beq_refl]
  · have : Nat.beq d t = false := by
      cases hb : Nat.beq d t
      · rfl
      · exact absurd (Nat.eq_of_beq_eq_true hb) h
    simp [this, h]

variable {n : Nat} {L : Frm} {a : Act} {w w0 : World}

theorem Agree.eval (h : Agree n L a) {x : Operand} {v : Value} (hv : L.ev x = some v) : a.eval x = v := by
  cases x with
  | tmp t => 
    have := h.2.2 t v hv
    simp [Act.eval, this]
  | const c => simpa [Frm.ev, Act.eval] using hv
  | global g => simpa [Frm.ev, Act.eval] using hv
  | func f => simpa [Frm.ev, Act.eval] using hv

theorem Agree.put (h : Agree n L a) {d : Option Nat} {v : Value} (hd : ∀ t, d = some t → t < n) : Agree n (L.put d v) (a.put d v) := by
  cases d with
  | none => exact h
  | some d =>
    have hd := hd d rfl
    obtain ⟨h1, h2, h3⟩ := h
    refine ⟨by simpa [Act.put] using h1, h2, ?_⟩
    intro t u hu
    simp only [Frm.put] at hu
    rw [Frm.get_cons] at hu
    by_cases e : d = t
    · subst e
      simp only [if_true, Option.some.injEq] at hu
      subst hu
      have : d < a.tmps.size := by omega
      simp [Act.put, this]
    · rw [if_neg e] at hu
      simpa [Act.put, Array.getElem?_setIfInBounds_ne e] using h3 t u hu

/-- The frame may be forgotten in part, or said otherwise. -/
def Frm.sub : Frm → Frm → Prop
  | [], _ => True
  | (t, v) :: r, L => L.get t = some v ∧ Frm.sub r L

theorem Frm.sub_get {M L : Frm} (h : Frm.sub M L) {t : Nat} {v : Value} (hv : M.get t = some v) : L.get t = some v := by
  induction M with
  | nil => simp [Frm.get] at hv
  | cons p r ih =>
    obtain ⟨d, u⟩ := p
    obtain ⟨h1, h2⟩ := h
    rw [Frm.get_cons] at hv
    by_cases e : d = t
    · subst e
      simp only [if_true, Option.some.injEq] at hv
      subst hv
      exact h1
    · rw [if_neg e] at hv
      exact ih h2 hv

theorem Agree.weaken (h : Agree n L a) {M : Frm} (hs : Frm.sub M L) : Agree n M a :=
  ⟨h.1, h.2.1, fun t v hv => h.2.2 t v (Frm.sub_get hs hv)⟩

/-! ### Judgements -/

def AtL (P : Program) (n : Nat) (w0 : World) (ops : Array Oper) (Q : Exit → Act → World → Prop) (L : Frm) (h : Heap) (l : List Oper) : Prop :=
  ∀ a w, Agree n L a → w.heap = h → Same w0 w → wpList P ops Q l a w

def AtC (P : Program) (n : Nat) (w0 : World) (Q : Exit → Act → World → Prop) (L : Frm) (h : Heap) (c : Code) : Prop :=
  ∀ a w, Agree n L a → w.heap = h → Same w0 w → c.wp P Q a w

/-- A way out. -/
def AtE (n : Nat) (w0 : World) (K : Act → World → Prop) (L : Frm) (h : Heap) : Prop :=
  ∀ a w, Agree n L a → w.heap = h → Same w0 w → K a w

section
variable {P : Program} {ops : Array Oper} {Q : Exit → Act → World → Prop} {h : Heap}

theorem AtC.region {id : Nat} {l : List Oper} (H : AtL P n w0 l.toArray Q L h l) : AtC P n w0 Q L h (.region id l.toArray false) :=
  fun a w ha hw hs => wp_region_lit (H a w ha hw hs)
theorem AtC.seq {x y : Code} (H : AtC P n w0 (Exit.then (y.wp P Q) Q) L h x) : AtC P n w0 Q L h (.seq x y) :=
  fun a w ha hw hs => wp_seq (H a w ha hw hs)
theorem AtC.seqR {id : Nat} {l : List Oper} {y : Code} (H : AtL P n w0 l.toArray (Exit.then (y.wp P Q) Q) L h l) : AtC P n w0 Q L h (.seq (.region id l.toArray false) y) :=
  AtC.seq (AtC.region H)
theorem AtC.block {id : Nat} {c : Code} (H : AtC P n w0 (Exit.inBlock id Q) L h c) : AtC P n w0 Q L h (.block id c) :=
  fun a w ha hw hs => wp_block (H a w ha hw hs)
theorem AtC.skip (H : AtE n w0 (Q .normal) L h) : AtC P n w0 Q L h .skip :=
  fun a w ha hw hs => wp_skip (H a w ha hw hs)
theorem AtC.exit {id : Nat} (H : AtE n w0 (Q (.exit id)) L h) : AtC P n w0 Q L h (.exit id) :=
  fun a w ha hw hs => wp_exit (H a w ha hw hs)
theorem AtC.ret (H : AtE n w0 (Q .ret) L h) : AtC P n w0 Q L h .ret :=
  fun a w ha hw hs => wp_ret (H a w ha hw hs)
theorem AtC.cond {c : Operand} {x y : Code} {b : Bool} (hb : L.ev c = some (.bool b)) (ht : b = true → AtC P n w0 Q L h x) (hf : b = false → AtC P n w0 Q L h y) :
    AtC P n w0 Q L h (.cond c x y) :=
  fun a w ha hw hs => wp_cond_split (ha.eval hb) (fun e => ht e a w ha hw hs) (fun e => hf e a w ha hw hs)
theorem AtL.nil (H : AtE n w0 (Q .normal) L h) : AtL P n w0 ops Q L h [] :=
  fun a w ha hw hs => wpList_nil (H a w ha hw hs)
/-- The code behind a region. -/
theorem AtE.go {y : Code} (H : AtC P n w0 Q L h y) : AtE n w0 (y.wp P Q) L h := H
theorem AtE.weaken {K : Act → World → Prop} {M : Frm} (H : AtE n w0 K M h) (hs : Frm.sub M L) : AtE n w0 K L h :=
  fun a w ha hw hs' => H a w (ha.weaken hs) hw hs'
theorem AtC.weaken {c : Code} {M : Frm} (H : AtC P n w0 Q M h c) (hs : Frm.sub M L) : AtC P n w0 Q L h c :=
  fun a w ha hw hs' => H a w (ha.weaken hs) hw hs'
theorem AtL.weaken {l : List Oper} {M : Frm} (H : AtL P n w0 ops Q M h l) (hs : Frm.sub M L) : AtL P n w0 ops Q L h l :=
  fun a w ha hw hs' => H a w (ha.weaken hs) hw hs'

/-- A loop, its measure a number beside the relation. -/
theorem wp_loop_rel {c : Code} (I : Nat → Act → World → Prop) {m : Nat} (h0 : I m a w)
    (round : ∀ m a w, I m a w → c.wp P (Exit.then (fun a' w' => ∃ m', m' < m ∧ I m' a' w') Q) a w) : (Code.loop c).wp P Q a w := by
  intro b k cs
  have key : ∀ m a w, I m a w →
      ∃ e a' w', Q e a' w' ∧ Arrives P (lone (b.at a (.code c :: .inLoop c :: k)) cs w) b k cs e a' w' := by
    intro m
    induction m using Nat.strongRecOn with
    | _ m ih =>
      intro a w hI
      obtain ⟨e, a₁, w₁, hq, harr⟩ := round m a w hI b (.inLoop c :: k) cs
      cases e with
      | normal =>
        obtain ⟨m', hlt, hI₁⟩ := hq
        obtain ⟨e₂, a₂, w₂, hq₂, harr₂⟩ := ih m' hlt a₁ w₁ hI₁
        exact ⟨e₂, a₂, w₂, hq₂, .of_steps (Steps.trans harr (.one step_inLoop)) harr₂⟩
      | exit id => exact ⟨_, a₁, w₁, hq, .pass (x := .inLoop c) rfl (fun _ _ => .inl (by simp)) harr⟩
      | goto l => exact ⟨_, a₁, w₁, hq, .pass (x := .inLoop c) rfl (fun _ _ => .inl (by simp)) harr⟩
      | ret => exact ⟨_, a₁, w₁, hq, .pass (x := .inLoop c) rfl (fun _ _ => .inl (by simp)) harr⟩
      | panic ch => exact ⟨_, a₁, w₁, hq, .pass (x := .inLoop c) rfl (fun _ _ => .inl (by simp)) harr⟩
      | outgrown => exact ⟨_, a₁, w₁, hq, .pass (x := .inLoop c) rfl (fun _ _ => .inl (by simp)) harr⟩
  obtain ⟨e, a', w', hq, harr⟩ := key m a w h0
  exact ⟨e, a', w', hq, .of_steps (.one step_loop) harr⟩

/-! ### The shallow side -/
end

/-- A name for a value. -/
def Let {α : Type} (e : α) (k : α → Prop) : Prop := ∀ x, x = e → k x
/-- Ways that meet again. -/
def seq {τ : Type} (m : (τ → Heap → Prop) → Prop) (k : τ → Heap → Prop) : Prop := ∃ J : τ → Heap → Prop, m J ∧ ∀ t h, J t h → k t h
/-- A loop: a relation that holds at each round's head, and a measure. -/
def loop {σ : Type} (body : σ → Heap → (σ → Heap → Prop) → Prop) (s : σ) (h : Heap) : Prop :=
  ∃ (I : σ → Heap → Prop) (m : σ → Heap → Nat), I s h ∧ ∀ s h, I s h → body s h (fun s' h' => I s' h' ∧ m s' h' < m s h)

theorem seq.dup {τ : Type} {m : (τ → Heap → Prop) → Prop} {k : τ → Heap → Prop} (h : m k) : seq m k := ⟨k, h, fun _ _ h => h⟩
theorem seq.cut {τ : Type} {m : (τ → Heap → Prop) → Prop} {k : τ → Heap → Prop} (J : τ → Heap → Prop) (h1 : m J) (h2 : ∀ t h, J t h → k t h) : seq m k := ⟨J, h1, h2⟩
theorem loop.inv {σ : Type} {body : σ → Heap → (σ → Heap → Prop) → Prop} {s : σ} {h : Heap} (I : σ → Heap → Prop) (m : σ → Heap → Nat) (h0 : I s h)
    (hb : ∀ s h, I s h → body s h (fun s' h' => I s' h' ∧ m s' h' < m s h)) : loop body s h := ⟨I, m, h0, hb⟩

section
variable {P : Program} {ops : Array Oper} {Q : Exit → Act → World → Prop} {h : Heap}

theorem AtC.loop {σ : Type} {c : Code} {body : σ → Heap → (σ → Heap → Prop) → Prop} {s : σ} (M : σ → Frm)
    (H : Lift.loop body s h) (hs : Frm.sub (M s) L)
    (round : ∀ (K : σ → Heap → Prop) s h, body s h K → ∀ Q' : Act → World → Prop, (∀ s h, K s h → AtE n w0 Q' (M s) h) → AtC P n w0 (Exit.then Q' Q) (M s) h c) :
    AtC P n w0 Q L h (.loop c) := by
  obtain ⟨I, m, h0, hb⟩ := H
  intro a w ha hw hsame
  refine wp_loop_rel (fun k a w => ∃ s h, Agree n (M s) a ∧ w.heap = h ∧ Same w0 w ∧ I s h ∧ m s h = k) (m := m s h) ⟨s, h, ha.weaken hs, hw, hsame, h0, rfl⟩ ?_
  rintro k a w ⟨s, h, ha, hw, hsame, hI, rfl⟩
  refine round _ s h (hb s h hI) _ (fun s' h' hk => ?_) a w ha hw hsame
  intro a' w' ha' hw' hs'
  exact ⟨m s' h', hk.2, s', h', ha', hw', hs', hk.1, rfl⟩
end

/-! ### Calls -/

/-- What a lifted function's call ends in. -/
def Post {α : Type} (w0 : World) (toV : α → Value) (S : α → Heap → Prop) : Ending → World → Prop :=
  fun e w' => ∃ r, e = .returned (toV r) ∧ Same w0 w' ∧ S r w'.heap

theorem Frm.init_get (l : List Value) : ∀ (k t : Nat) (v : Value), Frm.get (l.zipIdx k |>.map fun (v, i) => (i, v)) t = some v → k ≤ t ∧ l[t - k]? = some v := by
  induction l with
  | nil => intro k t v h; simp [Frm.get] at h
  | cons x r ih =>
    intro k t v h
    simp only [List.zipIdx_cons, List.map_cons, Frm.get_cons] at h
    by_cases e : k = t
    · subst e; simpa using h
    · rw [if_neg e] at h
      obtain ⟨h1, h2⟩ := ih (k + 1) t v h
      refine ⟨by omega, ?_⟩
      have : t - k = (t - (k + 1)) + 1 := by omega
      rw [this, List.getElem?_cons_succ]
      exact h2

def Frm.ofArgs (l : List Value) : Nat → Frm
  | k => match l with
    | [] => []
    | v :: r => (k, v) :: Frm.ofArgs r (k + 1)

theorem Frm.ofArgs_get (l : List Value) : ∀ (k t : Nat) (v : Value), Frm.get (Frm.ofArgs l k) t = some v → k ≤ t ∧ l[t - k]? = some v := by
  induction l with
  | nil => intro k t v h; simp [Frm.ofArgs, Frm.get] at h
  | cons x r ih =>
    intro k t v h
    simp only [Frm.ofArgs, Frm.get_cons] at h
    by_cases e : k = t
    · subst e; simpa using h
    · rw [if_neg e] at h
      obtain ⟨h1, h2⟩ := ih (k + 1) t v h
      refine ⟨by omega, ?_⟩
      have : t - k = (t - (k + 1)) + 1 := by omega
      rw [this, List.getElem?_cons_succ]
      exact h2

theorem Calls.lift {α : Type} {P : Program} {f : FuncId} {fn : Func} {c : Code} {args : List Value} {w : World} {toV : α → Value} {S : α → Heap → Prop} {n : Nat}
    (hf : P.funcs[f]? = some fn) (hb : fn.body = some c) (hn : fn.ntmps = n) (hle : args.length ≤ n)
    (sh : Heap → Prop) (H : sh w.heap) (h : ∀ h, sh h → AtC P n w (bodyPost P fn (Post w toV S)) (Frm.ofArgs args 0) h c) : Calls P f args.toArray w (Post w toV S) := by
  refine calls_of_wp hf hb ?_
  refine h _ H _ w ⟨?_, rfl, ?_⟩ rfl (Same.refl w)
  · simp [hn]; omega
  · intro t v hv
    obtain ⟨_, h2⟩ := Frm.ofArgs_get args 0 t v hv
    simp only [Nat.sub_zero] at h2
    have hlt : t < args.length := by
      rcases Nat.lt_or_ge t args.length with h | h
      · exact h
      · simp [List.getElem?_eq_none h] at h2
    simp only [List.getElem?_eq_getElem hlt, Option.some.injEq] at h2
    rw [Array.getElem?_append]
    simp [hlt, h2]

section
variable {P : Program} {h : Heap} {α : Type} {toV : α → Value} {S : α → Heap → Prop} {fn : Func} {w1 : World}

theorem AtE.ret1 {t : Nat} {r : α} (hr : fn.results = #[.tmp t]) (hv : L.get t = some (toV r)) (hS : S r h) : AtE n w0 (bodyPost P fn (Post w0 toV S) .ret) L h := by
  intro a w ha hw hs
  refine bodyPost_ret (results_tmp hr _ _ _) ha.2.1 ⟨r, ?_, hs, by rw [hw]; exact hS⟩
  have := ha.2.2 t _ hv
  simp [this]
theorem AtE.ret2 {t u : Nat} {v1 v2 : Value} {r : α} (hr : fn.results = #[.tmp t, .tmp u]) (hv : L.get t = some v1) (hu : L.get u = some v2) (he : toV r = .tuple #[v1, v2]) (hS : S r h) :
    AtE n w0 (bodyPost P fn (Post w0 toV S) .ret) L h := by
  intro a w ha hw hs
  refine bodyPost_ret (results_tmp2 hr _ _ _) ha.2.1 ⟨r, ?_, hs, by rw [hw]; exact hS⟩
  have h1 := ha.2.2 t _ hv
  have h2 := ha.2.2 u _ hu
  simp [h1, h2, he]
theorem AtE.ret0 {r : α} (hr : fn.results = #[]) (he : toV r = .tuple #[]) (hS : S r h) : AtE n w0 (bodyPost P fn (Post w0 toV S) .ret) L h := by
  intro a w ha hw hs
  exact bodyPost_ret (results_none hr _ _ _) ha.2.1 ⟨r, by rw [he], hs, by rw [hw]; exact hS⟩
theorem AtE.end0 {r : α} (hr : fn.results = #[]) (he : toV r = .tuple #[]) (hS : S r h) : AtE n w0 (bodyPost P fn (Post w0 toV S) .normal) L h := by
  intro a w ha hw hs
  exact bodyPost_end (results_none hr _ _ _) ha.2.1 ⟨r, by rw [he], hs, by rw [hw]; exact hS⟩
end

/-! ### Operations: those that look and do nothing, and those that do something -/

/-- The operation yields this value, and changes nothing, at this heap. -/
def Quiet1 (P : Program) (n : Nat) (L : Frm) (h : Heap) (o : Oper) (v : Value) : Prop :=
  ∀ a w, Agree n L a → w.heap = h → (execOp a.eval o).run P w = .ok (.value v) w

/-- The operation does something; whatever it comes to is told by K. -/
def Eff (P : Program) (n : Nat) (L : Frm) (h : Heap) (o : Oper) (K : Value → Heap → Prop) : Prop :=
  ∀ a w, Agree n L a → w.heap = h → ∀ (next : Act → World → Prop) (Q : Exit → Act → World → Prop),
    (∀ v w', Same w w' → K v w'.heap → next (a.put o.dst v) w') → o.wp P a w next Q

section
variable {P : Program} {ops : Array Oper} {Q : Exit → Act → World → Prop} {h : Heap} {o : Oper} {l : List Oper}

def okDst (o : Oper) (n : Nat) : Bool :=
  match o.guard with
  | some _ => false
  | none => match o.dst with
    | some d => Nat.blt d n
    | none => true
theorem okDst_spec (h : okDst o n = true) : o.guard = none ∧ ∀ t, o.dst = some t → t < n := by
  unfold okDst at h
  split at h
  · cases h
  · rename_i hg
    refine ⟨hg, fun t ht => ?_⟩
    rw [ht] at h
    simpa [Nat.blt_eq] using h

theorem AtL.q {v : Value} (hd : okDst o n = true) (hq : Quiet1 P n L h o v) (H : AtL P n w0 ops Q (L.put o.dst v) h l) : AtL P n w0 ops Q L h (o :: l) := by
  intro a w ha hw hs
  obtain ⟨hg, hd⟩ := okDst_spec hd
  refine wpList_plain hg fun K hK => ?_
  unfold Oper.wp
  rw [hq a w ha hw]
  exact hK _ _ (H _ _ (ha.put hd) hw hs)

theorem AtL.e {K : Value → Heap → Prop} (hd : okDst o n = true) (he : Eff P n L h o K) (H : ∀ v h', K v h' → AtL P n w0 ops Q (L.put o.dst v) h' l) : AtL P n w0 ops Q L h (o :: l) := by
  intro a w ha hw hs
  obtain ⟨hg, hd⟩ := okDst_spec hd
  refine wpList_plain hg fun K hK => ?_
  exact he a w ha hw K Q fun v w' hs' hk => hK _ _ (H v _ hk _ _ (ha.put hd) rfl (hs.trans hs'))

/-- A truth that is known by now is said so in the frame. -/
theorem AtL.known {t : Nat} {b c : Bool} (hv : L.get t = some (.bool b)) (hb : b = c) (H : AtL P n w0 ops Q ((t, .bool c) :: L) h l) : AtL P n w0 ops Q L h l := by
  subst hb
  intro a w ha hw hs
  refine H a w ⟨ha.1, ha.2.1, fun u v hu => ?_⟩ hw hs
  rw [Frm.get_cons] at hu
  by_cases e : t = u
  · subst e
    simp only [if_true, Option.some.injEq] at hu
    subst hu
    exact ha.2.2 _ _ hv
  · rw [if_neg e] at hu
    exact ha.2.2 _ _ hu

theorem okDst_bare {m : Nat} (h : okDst { o with guard := none } m = true) : ∀ t, o.dst = some t → t < m := (okDst_spec h).2

/-- An operation with a guard that says no. -/
theorem AtL.skipIt {j : Nat} {c : Bool} (hg : o.guard = some (j, c)) (hd : okDst { o with guard := none } n = true) (hy : ∀ a, Agree n L a → yielded ops a.tmps j ≠ some c)
    (H : AtL P n w0 ops Q (L.put o.dst undef) h l) : AtL P n w0 ops Q L h (o :: l) := by
  intro a w ha hw hs
  unfold wpList
  have hw' : Region.wanted o (yielded ops a.tmps) = false := by
    unfold Region.wanted
    rw [hg]
    simpa using hy a ha
  rw [if_neg (by simp [hw'])]
  exact H _ _ (ha.put (okDst_bare hd)) hw hs
theorem yield_bool {j t : Nat} {b c : Bool} (hj : (ops[j]?).bind (·.dst) = some t) (hv : L.get t = some (.bool b)) (hbc : b ≠ c) : ∀ a, Agree n L a → yielded ops a.tmps j ≠ some c := by
  intro a ha
  unfold yielded
  simp [hj, ha.2.2 t _ hv, hbc]
theorem yield_undef {j t : Nat} {c : Bool} (hj : (ops[j]?).bind (·.dst) = some t) (hv : L.get t = some undef) : ∀ a, Agree n L a → yielded ops a.tmps j ≠ some c := by
  intro a ha
  unfold yielded
  simp [hj, ha.2.2 t _ hv, undef]

/-- An operation with a guard that says yes is as one without. -/
theorem AtL.yes {t : Nat} {j : Nat} {c : Bool} (hg : o.guard = some (j, c)) (hj : (ops[j]?).bind (·.dst) = some t) (hv : L.get t = some (.bool c))
    (H : AtL P n w0 ops Q L h ({ o with guard := none } :: l)) : AtL P n w0 ops Q L h (o :: l) := by
  intro a w ha hw hs
  have h1 := H a w ha hw hs
  unfold wpList at h1 ⊢
  have hy : yielded ops a.tmps j = some c := by
    unfold yielded
    simp [hj, ha.2.2 t _ hv]
  have hw' : Region.wanted o (yielded ops a.tmps) = true := by
    unfold Region.wanted
    rw [hg]
    simp [hy]
  rw [if_pos hw']
  rw [if_pos (by simp [Region.wanted])] at h1
  have hop : ∀ ρ, execOp ρ { o with guard := none } = execOp ρ o := fun ρ => rfl
  simpa [Oper.wp, Oper.upon, Oper.asks, hop] using h1
end
end Go.Lift

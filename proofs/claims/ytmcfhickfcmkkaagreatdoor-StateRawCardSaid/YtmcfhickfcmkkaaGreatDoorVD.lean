/-
  Laws that the proof of this claim's statement leans on, each proved under the conditions that it states.
-/
import Derived.Test.YtmcfhickfcmkkaaGreatDoorVC
set_option linter.unusedVariables false
set_option linter.unusedSimpArgs false
namespace Go.Lift
open Go
section
variable {P : Program} {T : TTab} {n : Nat} (β : Nat → Nat) {st : St} {o : Oper} {k : SV → Prop}
theorem amz {s : SV} {k : SV → Prop} : vy false s k ↔ k s := by
  have bl : ∀ (l : List CV) (k : List CV → Prop), ajP false l k ↔ k l := by
    intro l
    induction l with
    | nil => intro k; exact Iff.rfl
    | cons c r ih => intro k; exact ih _
  unfold vy
  split
  · exact Iff.rfl
  · exact bl _ _
  · exact Iff.rfl
theorem ajk {x : Operand} (h : qNil x st k) : ∃ s, k s ∧ ∀ m, qNil x { st with m := m } (· = s) := by
  unfold qNil at h ⊢
  split at h
  · rename_i hx; exact ⟨_, h, fun m => by simp only [hx]⟩
  · rename_i hx; exact ⟨_, h, fun m => by simp only [hx]⟩
  · rename_i hx
    obtain ⟨a, hp, hk⟩ := h
    exact ⟨_, hk, fun m => by simp only [hx]; exact ⟨a, hp, rfl⟩⟩
  · exact h.elim
theorem ai2 {t : Nat} {x i : Operand} (h : ae2 T t x i st k) : ∃ s, k s ∧ ∀ m, ae2 T t x i { st with m := m } (· = s) := by
  unfold ae2 at h ⊢
  split at h
  · rename_i e kd j h1 hi
    split at h
    · rename_i sz s h2 hx
      obtain ⟨a, ha, hb, hk⟩ := h
      exact ⟨_, hk, fun m => by simp only [h1, hi, h2, hx]; exact ⟨a, ha, hb, rfl⟩⟩
    · exact h.elim
  · rename_i len e kd j h1 hi
    split at h
    · rename_i sz a h2 hx
      exact ⟨_, h.2, fun m => by simp only [h1, hi, h2, hx]; exact ⟨h.1, trivial⟩⟩
    · rename_i sz kk off h2 hx
      split at h
      · rename_i hc
        split at h
        · rename_i hd
          exact ⟨_, h, fun m => by simp only [h1, hi, h2, hx, hc, hd]⟩
        · exact h.elim
      · exact h.elim
    · exact h.elim
  · exact h.elim
theorem agk {t : Nat} {x i : Operand} (h : xP T t x i st k) : ∃ s, k s ∧ ∀ m, xP T t x i { st with m := m } (· = s) := by
  unfold xP at h ⊢
  split at h
  · rename_i kd j h1 hi
    split at h
    · rename_i s hx
      obtain ⟨h0, b, hb, hk⟩ := h
      exact ⟨_, hk, fun m => by simp only [h1, hi, hx]; exact ⟨h0, b, hb, rfl⟩⟩
    · exact h.elim
  · rename_i len e kd j h1 hi
    split at h
    · rename_i sz kd l h2 h3 hx
      obtain ⟨h0, v, hv, hk⟩ := h
      exact ⟨_, hk, fun m => by simp only [h1, hi, h2, h3, hx]; exact ⟨h0, v, hv, rfl⟩⟩
    · exact h.elim
  · exact h.elim
theorem ag6 {t : Nat} {x : Operand} {lo hi mx : Option Operand} (h : yF T t x lo hi mx st k) : ∃ s, k s ∧ ∀ m, yF T t x lo hi mx { st with m := m } (· = s) := by
  unfold yF at h ⊢
  split at h
  · rename_i e h1
    split at h
    · rename_i sz s lo' hi' mx' h2 hx hlo hhi hmx
      split at h
      · exact h.elim
      · obtain ⟨a1, a2, a3, hk⟩ := h
        exact ⟨_, hk, fun m => by simp only [h1, h2, hx, hlo, hhi, hmx]; exact ⟨a1, a2, a3, rfl⟩⟩
    · exact h.elim
  · rename_i h1
    split at h
    · rename_i s lo' hi' hx hlo hhi
      obtain ⟨a1, a2, hk⟩ := h
      exact ⟨_, hk, fun m => by simp only [h1, hx, hlo, hhi]; exact ⟨a1, a2, rfl⟩⟩
    · exact h.elim
  · rename_i len e h1
    split at h
    · rename_i sz a h2 hx
      exact ⟨_, h, fun m => by simp only [h1, h2, hx]⟩
    · exact h.elim
  · exact h.elim
theorem agN {t : Nat} {parts : List (Nat × Operand)} (h : ym T t parts st k) : ∃ s, k s ∧ ∀ m, ym T t parts { st with m := m } (· = s) := by
  unfold ym at h ⊢
  split at h
  · rename_i fs z h1 hz
    split at h
    · rename_i ps hps
      split at h
      · rename_i l hl
        exact ⟨_, h, fun m => by simp only [h1, hz, hps, hl]⟩
      · exact h.elim
    · exact h.elim
  · rename_i len e z h1 hz
    split at h
    · rename_i sz h2
      split at h
      · rename_i l hl
        exact ⟨_, h, fun m => by simp only [h1, hz, h2, hl]⟩
      · exact h.elim
    · exact h.elim
  · exact h.elim
theorem agP {t f : Nat} {x : Operand} (h : yD T t x f st k) : ∃ s, k s ∧ ∀ m, yD T t x f { st with m := m } (· = s) := by
  unfold yD at h ⊢
  split at h
  · rename_i fs l h1 hx
    split at h
    · rename_i fl hf
      split at h
      · rename_i sz ks h2 h3
        exact ⟨_, h, fun m => by simp only [h1, hx, hf, h2, h3]⟩
      · rename_i sz ks h2 h3
        split at h
        · rename_i c hc
          exact ⟨_, h, fun m => by simp only [h1, hx, hf, h2, h3, hc]⟩
        · exact h.elim
      · exact h.elim
    · exact h.elim
  · exact h.elim
theorem ajf {b : BinOp} {t : Nat} {x y : Operand} (h : qBin T false b t x y st k) : ∃ s, k s ∧ ∀ m, qBin T false b t x y { st with m := m } (· = s) := by
  have bs : ∀ {s : SV} {k : SV → Prop}, vy false s k → k s := amz.1
  unfold qBin at h ⊢
  split at h
  · rename_i h0
    split at h
    · rename_i kd a kd' c hx hy
      split at h
      · rename_i hd
        exact ⟨_, bs h.2, fun m => by simp only [h0, hx, hy, hd]; exact ⟨h.1, rfl⟩⟩
      · exact h.elim
    · rename_i kd a kd' c hx hy
      split at h
      · rename_i hd
        exact ⟨_, bs h.2, fun m => by simp only [h0, hx, hy, hd]; exact ⟨h.1, rfl⟩⟩
      · exact h.elim
    · rename_i kd a kd' c hx hy
      exact ⟨_, bs h.2, fun m => by simp only [h0, hx, hy]; exact ⟨h.1, rfl⟩⟩
    · rename_i kd a kd' c hx hy
      exact ⟨_, bs h.2, fun m => by simp only [h0, hx, hy]; exact ⟨h.1, rfl⟩⟩
    · exact h.elim
  · rename_i e h1
    split at h
    · rename_i s i j hx
      exact ⟨_, h, fun m => by simp only [h1, hx]⟩
    · rename_i s i j hx
      exact ⟨_, h, fun m => by simp only [h1, hx]⟩
    · exact h.elim
  · rename_i h1
    split at h
    · rename_i a c hx hy
      exact ⟨_, bs h.2, fun m => by simp only [h1, hx, hy]; exact ⟨h.1, rfl⟩⟩
    · exact h.elim
  · exact h.elim
theorem aiZ {fn : Fn} {fs cs : List Operand} (h : aeX fn fs cs st k) : ∃ s, k s ∧ ∀ m, aeX fn fs cs { st with m := m } (· = s) := by
  unfold aeX at h ⊢
  split at h
  · rename_i bs cs h1 h2
    exact ⟨_, h, fun m => by simp only [h1, h2]⟩
  · exact h.elim
def seen (T : TTab) (E : Env) (o : Oper) (s : SV) : Option (Heap → Prop) :=
  match o.op with
  | .load t x => match E.ev x with
    | some (.t (.sg (.adr a))) => match T.shp t, T.size t, s with
      | some (true, _), some sz, .t (.agg l) => some fun m => cells? m a sz 0 = some (l.map CV.val)
      | some (false, _), some _, .t (.sg c) => some fun m => cell? m a = some c.val
      | _, _, _ => some fun _ => False
    | _ => none
  | .convert _ _ x => match slE E x, s with
    | some sl, .t (.sg (.v (.string u) _)) => some fun m => ajr sl m u
    | some _, _ => some fun _ => False
    | none, _ => none
  | _ => none
def Still (T : TTab) (E : Env) (o : Oper) (s : SV) (m : Heap) : Prop :=
  match seen T E o s with
  | none => True
  | some R => R m
theorem agZ {m m' : Heap} (e : MExt m m') : ∀ {a : Option Addr} {l : Nat} {vs : List Value}, cellsO? m a l = some vs → cellsO? m' a l = some vs := by
  intro a l vs h
  unfold cellsO? at h ⊢
  split at h
  · exact h
  · exact e.cells h
theorem Still.ext {E : Env} {s : SV} {m m' : Heap} (h : Still T E o s m) (e : MExt m m') : Still T E o s m' := by
  unfold Still seen at h ⊢
  split at h
  · trivial
  · rename_i R hR
    split at hR
    · split at hR
      · split at hR <;> cases hR
        · exact e.cells h
        · exact e.cell h
        · exact h
      · cases hR
    · split at hR <;> cases hR
      · obtain ⟨ns, h1, h2⟩ := h
        exact ⟨ns, agZ e h1, h2⟩
      · exact h
    · cases hR
theorem aiP (hT : TTab.Ok P T) (h : shQ T false o st k) : ∃ s, k s ∧ Still T st.E o s st.m ∧ ∀ m, Still T st.E o s m → Quiet2 P n β { st with m := m } o (s.val β) := by
  have fin : ∀ {s : SV}, k s → seen T st.E o s = none → (∀ m, shQ T false o { st with m := m } (· = s)) → ∃ s, k s ∧ Still T st.E o s st.m ∧ ∀ m, Still T st.E o s m → Quiet2 P n β { st with m := m } o (s.val β) := by
    intro s hk hs hq
    refine ⟨s, hk, by unfold Still; rw [hs]; trivial, fun m _ => ?_⟩
    obtain ⟨s', rfl, h'⟩ := mI (n := n) β hT (hq m)
    exact h'
  cases hp : aa4 T st.E o.op with
  | some s =>
    simp only [shQ, hp] at h
    refine fin (amz.1 h) ?_ fun m => by simp only [shQ, hp]; exact amz.2 rfl
    unfold seen
    split
    · rename_i t x hop; rw [hop] at hp; simp [aa4] at hp
    · rename_i s0 d x hop
      have : slE st.E x = none := by
        rw [hop] at hp
        simp only [aa4] at hp
        split at hp
        · split at hp
          · rename_i hx; simp [slE, hx]
          · cases hp
        · split at hp
          · rename_i hx; simp [slE, hx]
          · cases hp
        · cases hp
      rw [this]
    · rfl
  | none =>
    have e : ∀ m K, shQ T false o { st with m := m } K = (match o.op with
      | .load t x => abx T t x { st with m := m } K
      | .nilCheck x => qNil x { st with m := m } K
      | .indexAddr t x i => ae2 T t x i { st with m := m } K
      | .index t x i => xP T t x i { st with m := m } K
      | .slice t x lo hi mx => yF T t x lo hi mx { st with m := m } K
      | .build t parts => ym T t parts.toList { st with m := m } K
      | .field t x f => yD T t x f { st with m := m } K
      | .binOp b t x y _ => qBin T false b t x y { st with m := m } K
      | .convert s d x => agz T s d x { st with m := m } K
      | .makeFunc fn fs cs => aeX fn fs.toList cs.toList { st with m := m } K
      | _ => False) := fun m K => by simp only [shQ, hp]; rfl
    have h := e st.m k ▸ h
    split at h <;> rename_i hop
    · rename_i t x
      unfold abx at h
      split at h
      · rename_i ks sz kk off h1 h2 hx
        split at h
        · rename_i cs hc
          split at h
          · rename_i hb
            exact fin h (by simp only [seen, hop, hx]) fun m => by rw [e]; simp only [hop, abx, h1, h2, hx, hc, hb]
          · exact h.elim
        · exact h.elim
      · rename_i ks sz kk off h1 h2 hx
        split at h
        · rename_i cs hc
          split at h
          · rename_i c hoff
            exact fin h (by simp only [seen, hop, hx]) fun m => by rw [e]; simp only [hop, abx, h1, h2, hx, hc, hoff]
          · exact h.elim
        · exact h.elim
      · rename_i ks sz a h1 h2 hx
        obtain ⟨v, hc, hk⟩ := h
        rw [Tup.vals_cvs] at hc
        refine ⟨_, hk, by simp only [Still, seen, hop, hx, h1, h2]; exact hc, fun m hm => ?_⟩
        simp only [Still, seen, hop, hx, h1, h2] at hm
        obtain ⟨s', rfl, h'⟩ := mI (st := { st with m := m }) (k := (· = _)) (n := n) β hT (by rw [e]; simp only [hop, abx, h1, h2, hx]; exact ⟨v, by rw [Tup.vals_cvs]; exact hm, rfl⟩)
        exact h'
      · rename_i kd sz a h1 h2 hx
        obtain ⟨v, hc, hk⟩ := h
        rw [← Kd.cv_val] at hc
        refine ⟨_, hk, by simp only [Still, seen, hop, hx, h1, h2]; exact hc, fun m hm => ?_⟩
        simp only [Still, seen, hop, hx, h1, h2] at hm
        obtain ⟨s', rfl, h'⟩ := mI (st := { st with m := m }) (k := (· = _)) (n := n) β hT (by rw [e]; simp only [hop, abx, h1, h2, hx]; exact ⟨v, by rw [← Kd.cv_val]; exact hm, rfl⟩)
        exact h'
      · exact h.elim
    · obtain ⟨s, h1, h2⟩ := ajk h
      exact fin h1 (by simp only [seen, hop]) fun m => by rw [e]; simp only [hop]; exact h2 m
    · obtain ⟨s, h1, h2⟩ := ai2 h
      exact fin h1 (by simp only [seen, hop]) fun m => by rw [e]; simp only [hop]; exact h2 m
    · obtain ⟨s, h1, h2⟩ := agk h
      exact fin h1 (by simp only [seen, hop]) fun m => by rw [e]; simp only [hop]; exact h2 m
    · obtain ⟨s, h1, h2⟩ := ag6 h
      exact fin h1 (by simp only [seen, hop]) fun m => by rw [e]; simp only [hop]; exact h2 m
    · obtain ⟨s, h1, h2⟩ := agN h
      exact fin h1 (by simp only [seen, hop]) fun m => by rw [e]; simp only [hop]; exact h2 m
    · obtain ⟨s, h1, h2⟩ := agP h
      exact fin h1 (by simp only [seen, hop]) fun m => by rw [e]; simp only [hop]; exact h2 m
    · obtain ⟨s, h1, h2⟩ := ajf h
      exact fin h1 (by simp only [seen, hop]) fun m => by rw [e]; simp only [hop]; exact h2 m
    · rename_i s0 d x
      unfold agz at h
      split at h
      · rename_i e0 sl h1 h2 hx
        split at h
        · rename_i h3
          obtain ⟨ns, hc, hk⟩ := h
          refine ⟨_, hk, by simp only [Still, seen, hop, hx]; exact ⟨ns, hc, rfl⟩, fun m hm => ?_⟩
          simp only [Still, seen, hop, hx] at hm
          obtain ⟨ns', hc', e'⟩ := hm
          obtain ⟨s', rfl, h'⟩ := mI (st := { st with m := m }) (k := (· = .t (.sg (.v (.string (tY ns')) true)))) (n := n) β hT (by rw [e]; simp only [hop, agz, h1, h2, hx, h3]; exact ⟨ns', hc', rfl⟩)
          rw [← e']
          exact h'
        · exact h.elim
      · exact h.elim
    · obtain ⟨s, h1, h2⟩ := aiZ h
      exact fin h1 (by simp only [seen, hop]) fun m => by rw [e]; simp only [hop]; exact h2 m
    · exact h.elim
end
end Go.Lift

namespace Go.Lift
open Go
def ij (E : Env) : List Nat → Env
  | [] => []
  | t :: r => match E.get t with
    | some s => (t, s) :: ij E r
    | none => ij E r
structure Rg where
  ops : List Oper
  E : List Nat
  A : List (List Nat)
  G : List (List Nat)
  lays : List Nat
  lds : List Nat
  tks : List (Nat × Nat)
  pubs : List Nat
def Rg.look (rg : Rg) (o : Oper) : List Nat := o.looksAt rg.ops.toArray
def Rg.av (rg : Rg) (i : Nat) : List Nat := rg.A.getD i []
def Rg.an (rg : Rg) (i : Nat) : List Nat := rg.G.getD i []
def Rg.avp (rg : Rg) (i : Nat) : List Nat := (rg.av i).filter (memN rg.pubs)
def Rg.pvq (rg : Rg) (pv : List (Nat × List CV)) (i : Nat) : List (Nat × List CV) :=
  pv.filter fun p => !(memN rg.lds p.1) && rg.tks.all fun x => !(Nat.beq x.2 p.1) || memN (rg.an x.1) i
abbrev Seen := List (Nat × (Heap → Prop))
def nG : List Nat → List Nat → Bool
  | [], _ => true
  | x :: r, D => memN D x && nG r D
def isD (d : Nat) : Option Nat → Bool
  | some x => Nat.beq x d
  | none => false
def ahY (rg : Rg) (skip : List Nat) (d : Option Nat) : List Nat → Bool
  | [] => true
  | i :: r => (memN skip i || (match d, rg.ops[i]? with
    | some d, some o => !(memN (rg.look o) d) && !(isD d o.dst)
    | _, _ => true)) && ahY rg skip d r
def aaB (rg : Rg) (i : Nat) (d : Option Nat) : List (Nat × Nat) → Bool
  | [] => true
  | x :: r => (memN (rg.an x.1) i || (match d, rg.ops[x.1]? with
    | some d, some o => !(memN (rg.look o) d)
    | _, _ => true)) && aaB rg i d r
def akd (rg : Rg) (o : Oper) : Bool :=
  match o.dst with
  | some d => !(memN (rg.look o) d)
  | none => true
def oH (T : TTab) (E : Env) (o : Oper) (i : Nat) (s : SV) (hcs : Seen) : Seen :=
  match seen T E o s with
  | some R => hcs ++ [(i, R)]
  | none => hcs
section
variable {P : Program} (c : Ctx P) (rg : Rg)
def akS (i : Nat) (got : List Nat) (hcs : Seen) (st : St) (k : Seen → St → Prop) : Prop :=
  match rg.ops[i]? with
  | none => False
  | some o => match okD o c.n && ahY rg [] o.dst got && akd rg o && aaB rg i o.dst rg.tks with
    | false => False
    | true =>
      let go := fun st : St => shQ c.T false o { st with E := ij st.E (rg.look o), pv := rg.pvq st.pv i } fun s => k (oH c.T (ij st.E (rg.look o)) o i s hcs) (st.put o.dst s)
      let skip := fun st : St => k hcs (st.put o.dst .un)
      match o.guard with
      | none => go st
      | some (j, want) => match fB rg.ops j with
        | none => False
        | some t => match st.E.get t with
          | some .un => skip st
          | some (.t (.sg (.kb b))) => match eqB b want with
            | true => go st
            | false => skip st
          | some (.t (.sg (.v (.bool b) _))) =>
            iteB b
              (match eqB true want with
                | true => go (st.know t true)
                | false => skip (st.know t true))
              (match eqB false want with
                | true => go (st.know t false)
                | false => skip (st.know t false))
          | _ => False
def clo (Dp : List Nat) : List Nat → List Nat → Seen → St → (List Nat → Seen → St → Prop) → Prop
  | [], got, hcs, st, k => k got hcs st
  | i :: l, got, hcs, st, k => match memN rg.E i || memN got i || !(nG (rg.avp i) Dp) with
    | true => clo Dp l got hcs st k
    | false => akS c rg i got hcs st fun hcs st => clo Dp l (i :: got) hcs st k
def mL (Dp : List Nat) (i : Nat) : Bool :=
  match Dp with
  | [] => false
  | e :: r => memN (rg.an e) i || mL r i
def stay (Dp : List Nat) : Seen → Seen
  | [] => []
  | x :: r => match mL rg Dp x.1 with
    | true => stay Dp r
    | false => x :: stay Dp r
def afP (m : Heap) : Seen → Prop → Prop
  | [], p => p
  | x :: r, p => x.2 m ∧ afP m r p
def effS (Dp : List Nat) (e : Nat) (got : List Nat) (hcs : Seen) (st : St) (k : Seen → St → Prop) : Prop :=
  match rg.ops[e]? with
  | none => False
  | some o => match okD o c.n && ahY rg (rg.an e) o.dst got && !(rJ c.hint o) && aaB rg e o.dst rg.tks with
    | false => False
    | true =>
      let go : Prop := match abO o.op with
        | true => match ags (ij st.E (rg.look o)) o with
          | false => False
          | true => shE c.T c.tbl c.hint o { st with E := ij st.E (rg.look o) } fun s st' => afP st'.m (stay rg (e :: Dp) hcs) (k (stay rg (e :: Dp) hcs) ({ st with m := st'.m }.put o.dst s))
        | false => shQ c.T false o { st with E := ij st.E (rg.look o), pv := rg.pvq st.pv e } fun s => k hcs (st.put o.dst s)
      match o.guard with
      | none => go
      | some (j, want) => match fB rg.ops j with
        | none => False
        | some t => match st.E.get t with
          | some .un => k hcs (st.put o.dst .un)
          | some (.t (.sg (.kb b))) => match eqB b want with
            | true => go
            | false => k hcs (st.put o.dst .un)
          | _ => False
def aev (Dp : List Nat) : List Nat → Bool
  | [] => false
  | l :: r => !(mL rg Dp l) || aev Dp r
def ame (b : Bool) (st : St) (k : St → Prop) : Prop :=
  match b with
  | true => Lift.mem st.m fun m => k { st with m := m }
  | false => k st
def wW (Dp : List Nat) : List Nat → List Nat
  | [] => []
  | e :: r => match !(memN Dp e) && nG (rg.avp e) Dp with
    | true => e :: wW Dp r
    | false => wW Dp r
def ajn (f : Nat → Prop) : List Nat → Prop
  | [] => False
  | e :: r => match r with
    | [] => f e
    | _ :: _ => f e ∧ ajn f r
def adD : List Nat → St → Option St
  | [], st => some st
  | i :: r, st => match rg.ops[i]? with
    | some o => match o.op, o.dst with
      | .alloc t, some d => match c.T.zero t with
        | some z => adD r ((st.lay d (z.map ku)).put (some d) (.pv d 0))
        | none => none
      | _, _ => none
    | none => none
def agI (lds : List Nat) (E : Env) (x : Operand) : Option (Nat × Nat) :=
  match x with
  | .tmp d => match memN lds d with
    | true => some (d, 0)
    | false => match E.get d with
      | some (.pv k off) => match memN lds k with
        | true => none
        | false => some (k, off)
      | _ => none
  | _ => none
def aid (a : Option (Nat × Nat)) (sz : Option Nat) (y : Option SV) : Option (Nat × Nat × List CV) :=
  match a, sz, y with
  | some (k, off), some sz, some (.t (.sg v)) => match Nat.beq sz 1 && oneC v with
    | true => some (k, off, [v])
    | false => none
  | some (k, off), some sz, some (.t (.agg l)) => match Nat.beq sz l.length && l.all oneC with
    | true => some (k, off, l)
    | false => none
  | _, _, _ => none
def ahf (E : Env) (e : Nat) : Option (Nat × Nat × List CV) :=
  match rg.ops[e]? with
  | some o => match o.op, o.dst, o.guard with
    | .store t x y, none, none => aid (agI rg.lds (ij E (rg.look o)) x) (c.T.size t) ((ij E (rg.look o)).ev y)
    | _, _, _ => none
  | none => none
def mi (l : Nat) : List Value :=
  match rg.ops[l]? with
  | some o => match o.op with
    | .alloc t => (c.T.zero t).getD []
    | _ => []
  | none => []
def akL (pv : List (Nat × List CV)) (k n : Nat) : Bool :=
  match memN rg.lds k with
  | true => rg.lays.all fun l => !(isD k (fB rg.ops l)) || Nat.ble n (mi c rg l).length
  | false => match ox pv k with
    | some cs => Nat.ble n cs.length
    | none => false
def ah3 (st : St) (e k : Nat) : Bool :=
  match ahf c rg st.E e with
  | some (k', off, l) => Nat.beq k' k && akL c rg st.pv k (off + l.length)
  | none => false
def kR (Dp : List Nat) (st : St) : List (Nat × Nat) → Bool
  | [] => true
  | x :: r => (!(nG (rg.avp x.1) Dp) || ah3 c rg st x.1 x.2) && kR Dp st r
def ahG (E : Env) : List (Nat × Nat) → St → Option St
  | [], st => some st
  | x :: r, st => match ahf c rg E x.1 with
    | some (k, off, l) => match ox st.pv k with
      | some cs => match Nat.beq k x.2 && Nat.ble (off + l.length) cs.length with
        | true => ahG E r { st with pv := o0 st.pv k (cs.take off ++ l ++ cs.drop (off + l.length)), dirty := (k, false) :: st.dirty }
        | false => none
      | none => none
    | none => none
def finS (st : St) (K : St → Prop) : Prop :=
  match adD c rg rg.lays st with
  | some st1 => match ahG c rg st.E rg.tks st1 with
    | some st2 => K st2
    | none => False
  | none => False
def ah9 (Dp : List Nat) (st : St) (k : St → Prop) : Prop :=
  match kR c rg Dp st rg.tks with
  | true => ame (aev rg Dp rg.lays) st k
  | false => False
def stg (K : St → Prop) : Nat → List Nat → List Nat → Seen → St → Prop
  | 0, Dp, got, hcs, st => clo c rg Dp (List.range rg.ops.length) got hcs st fun _ _ st => ah9 c rg Dp st fun st => finS c rg st K
  | k + 1, Dp, got, hcs, st => clo c rg Dp (List.range rg.ops.length) got hcs st fun got hcs st => ah9 c rg Dp st fun st =>
    ajn (fun e => effS c rg Dp e got hcs st fun hcs st => stg K k (e :: Dp) got hcs st) (wW rg Dp rg.pubs)
end
def addN (l : List Nat) (k : Nat) : List Nat :=
  match memN l k with
  | true => l
  | false => k :: l
def uniN : List Nat → List Nat → List Nat
  | [], l => l
  | x :: r, l => uniN r (addN l x)
def ancs : List Oper → List (List Nat) → List (List Nat)
  | [], acc => acc
  | o :: r, acc => ancs r (acc ++ [(rC o).foldr (fun j g => uniN (acc.getD j []) (addN g j)) []])
def ajg (f : Oper → Nat → Bool) : List Oper → Nat → List Nat
  | [], _ => []
  | o :: r, i => match f o i with
    | true => i :: ajg f r (i + 1)
    | false => ajg f r (i + 1)
def acJ (ops : List Oper) : Nat → Operand → Operand
  | 0, x => x
  | k + 1, x => match x with
    | .tmp j => match ops.find? (fun o => isD j o.dst) with
      | some o => match o.op with
        | .fieldAddr _ y _ => acJ ops k y
        | .indexAddr _ y _ => acJ ops k y
        | .nilCheck y => acJ ops k y
        | .move y => acJ ops k y
        | _ => x
      | none => x
    | x => x
def aa5 (ops : List Oper) : List Nat → List Nat
  | [] => []
  | l :: r => match fB ops l with
    | some d => d :: aa5 ops r
    | none => aa5 ops r
def alj (E : Env) (ops : List Oper) (lds : List Nat) (o : Oper) : Option Nat :=
  match o.op with
  | .store _ x _ => match acJ ops ops.length x with
    | .tmp j => match memN lds j with
      | true => some j
      | false => match E.get j with
        | some (.pv k _) => some k
        | _ => none
    | _ => none
  | _ => none
def aio (E : Env) (ops : List Oper) (lds : List Nat) : List Oper → Nat → List (Nat × Nat)
  | [], _ => []
  | o :: r, i => match alj E ops lds o with
    | some k => (i, k) :: aio E ops lds r (i + 1)
    | none => aio E ops lds r (i + 1)
def mkRg (hint : Hint) (E : Env) (ops : List Oper) : Rg :=
  let G := ancs ops []
  let over := fun (o : Oper) (j : Nat) => match o.dst with
    | some d => ops.zipIdx.any fun (o2, i) => memN (o2.looksAt ops.toArray) d && !(memN (G.getD i []) j)
    | none => false
  let lays := ajg (fun o _ => rJ hint o) ops 0
  let lds := aa5 ops lays
  let tks := aio E ops lds ops 0
  let Es := ajg (fun o j => abO o.op || over o j) ops 0
  { ops := ops, E := Es, A := G.map fun g => g.filter (memN Es), G := G, lays := lays, lds := lds, tks := tks,
    pubs := Es.filter fun e => !(memN lays e) && !(memN (tks.map (·.1)) e) }
def Rg.tail (rg : Rg) : List Nat := rg.tks.map (·.1)
def afH (rg : Rg) (before : List (Nat × Nat)) : List (Nat × Nat) → Bool
  | [] => true
  | x :: r => (before.all fun y => !(Nat.beq y.2 x.2) || memN (rg.av x.1) y.1) && (rg.lays.all fun l => !(isD x.2 (fB rg.ops l)) || memN (rg.av x.1) l) && afH rg (x :: before) r
def allI (p : Oper → Nat → Bool) : List Oper → Nat → Bool
  | [], _ => true
  | o :: r, i => p o i && allI p r (i + 1)
def akk (rg : Rg) (o : Oper) (i : Nat) : Bool := memN rg.tail i || (rg.look o).all fun t => !(memN rg.lds t)
def alP (rg : Rg) (o : Oper) (i : Nat) : Bool := memN rg.lays i || match o.dst with
    | some d => !(memN rg.lds d)
    | none => true
def ajG (rg : Rg) (T : TTab) (n : Nat) : List Nat → Bool
  | [] => true
  | l :: r => (match rg.ops[l]? with
    | some o => (match o.op, o.dst, o.guard with
      | .alloc t, some d, none => Nat.blt d n && memN rg.lds d && (T.zero t).isSome
      | _, _, _ => false)
    | none => false) && memN rg.E l && !(memN rg.pubs l) && !(memN rg.tail l) && ajG rg T n r
def lookT (rg : Rg) (x : Nat × Nat) : Bool :=
  match rg.ops[x.1]? with
  | some o => match o.op with
    | .store _ (.tmp d) _ => memN (rg.look o) d
    | _ => false
  | none => false
def Rg.ok (rg : Rg) (T : TTab) (n : Nat) : Bool :=
  oN rg.ops rg.E rg.A rg.G && afH rg [] rg.tks && allI (akk rg) rg.ops 0 && allI (alP rg) rg.ops 0 &&
    ajG rg T n rg.lays && nG rg.E (rg.pubs ++ (rg.lays ++ rg.tail)) && nG rg.pubs rg.E && nG rg.tail rg.E && rg.pubs.all (fun e => !(memN rg.tail e)) && xO rg.tail && xO rg.pubs && xO rg.lays &&
    nG rg.lds (aa5 rg.ops rg.lays) && rg.tks.all (lookT rg)
def stgD {P : Program} (c : Ctx P) (ops : List Oper) (st : St) (K : St → Prop) : Prop :=
  let rg := mkRg c.hint st.E ops
  match rg.ok c.T c.n with
  | false => False
  | true => stg c rg K rg.pubs.length [] [] [] { st with E := st.E.filter (fun p => !(memN rg.lds p.1)), mem := false }
end Go.Lift

namespace Go.Lift
open Go
theorem Env.frm_get {β : Nat → Nat} : ∀ {E : Env} {t : Nat}, (E.frm β).get t = (E.get t).map (SV.val β)
  | [], t => rfl
  | (i, s) :: r, t => by
    show Frm.get ((i, s.val β) :: Env.frm β r) t = _
    simp only [Frm.get, Env.get]
    cases Nat.beq i t with
    | true => rfl
    | false => exact Env.frm_get
theorem mS {β : Nat → Nat} {E : Env} : ∀ {ts : List Nat}, (ij E ts).frm β = (E.frm β).only ts
  | [] => rfl
  | t :: r => by
    simp only [ij, Frm.only, Env.frm_get]
    cases E.get t with
    | none => exact mS
    | some s => exact congrArg ((t, s.val β) :: ·) mS
theorem pw {E : Env} : ∀ {ts : List Nat} {p : Nat × SV}, p ∈ ij E ts → E.get p.1 = some p.2 ∧ p.1 ∈ ts
  | [], p, h => by cases h
  | t :: r, p, h => by
    simp only [ij] at h
    split at h
    · rename_i s hs
      rcases List.mem_cons.1 h with rfl | h
      · exact ⟨hs, List.mem_cons_self ..⟩
      · exact ⟨(pw h).1, List.mem_cons_of_mem _ (pw h).2⟩
    · exact ⟨(pw h).1, List.mem_cons_of_mem _ (pw h).2⟩
theorem Frm.only_of {V : Frm} {t : Nat} {v : Value} (hv : V.get t = some v) : ∀ {ts : List Nat}, t ∈ ts → (V.only ts).get t = some v
  | [], h => by cases h
  | x :: ts, h => by
    simp only [Frm.only]
    by_cases e : x = t
    · subst e; rw [hv]; simp [Frm.get_cons]
    · have hm' : t ∈ ts := by rcases List.mem_cons.1 h with rfl | h; exact absurd rfl e; exact h
      cases hx : V.get x with
      | none => exact Frm.only_of hv hm'
      | some u => simp only; rw [Frm.get_cons, if_neg e]; exact Frm.only_of hv hm'
theorem aa3 {n : Nat} {β : Nat → Nat} {E : Env} {ts : List Nat} {a : Act} (h : Agree n ((E.frm β).only ts) a) : Holds n β (ij E ts) a :=
  ⟨h.1, h.2.1, fun p hp => by
    obtain ⟨h1, h2⟩ := pw hp
    exact h.2.2 _ _ (Frm.only_of (by rw [Env.frm_get, h1]; rfl) h2)⟩
theorem Rel.fewer {m : Heap} {pv pv' : List (Nat × List Value)} {H : Heap} (h : Rel ⟨m, pv⟩ H) (hs : ∀ x ∈ pv', x ∈ pv) (hn : (pv'.map (·.1)).Nodup) : Rel ⟨m, pv'⟩ H :=
  ⟨h.size, h.same, fun b cs hb => h.priv b cs (hs _ hb), hn⟩
theorem wR {l D : List Nat} : nG l D = true ↔ ∀ x ∈ l, x ∈ D := by
  induction l with
  | nil => simp [nG]
  | cons x r ih => simp [nG, ih, i7]
def putG (g : Nat → Option Value) (d : Option Nat) (v : Value) : Nat → Option Value := fun t => if d = some t then some v else g t
theorem amI {d : Nat} {x : Option Nat} : isD d x = true ↔ x = some d := by
  cases x with
  | none => simp [isD]
  | some x => simp [isD]
section
variable {P : Program} {c : Ctx P} {rg : Rg} {B : Base} {β : Nat → Nat}
theorem QOp.put {g : Nat → Option Value} {h : Hp} {o : Oper} {d : Option Nat} {v : Value} (hq : QOp P c.n rg.ops.toArray g h o) (h1 : ∀ x, d = some x → x ∉ rg.look o) (h2 : ∀ x, d = some x → o.dst ≠ some x) : QOp P c.n rg.ops.toArray (putG g d v) h o := by
  obtain ⟨u, M, hM, hy, hd, hg⟩ := hq
  refine ⟨u, M, fun t w ht => ?_, hy, hd, fun x hx => ?_⟩
  · obtain ⟨e1, e2⟩ := hM t w ht
    refine ⟨?_, e2⟩
    unfold putG
    rw [if_neg (fun e => h1 t e e2)]
    exact e1
  · unfold putG
    rw [if_neg (fun e => h2 x e hx)]
    exact hg x hx
theorem QOp.mk' {g : Nat → Option Value} {st1 : St} {o : Oper} {v : Value} {m : Heap} {pv : List (Nat × List CV)} {pvx : List (Nat × List Value)} (hd : okD o c.n = true) (hM : ∀ p ∈ st1.E, p.1 ∈ rg.look o → g p.1 = some (p.2.val β))
    (hw : ∀ a, Agree c.n ((st1.E.frm β).only (rg.look o)) a → Region.wanted o (yielded rg.ops.toArray a.tmps) = true)
    (hq : Quiet2 P c.n β { st1 with E := ij st1.E (rg.look o), m := m, pv := pv } o v) (hs : ∀ x ∈ (hpOf β m pv).pv, x ∈ pvx) (hn : ((hpOf β m pv).pv.map (·.1)).Nodup) (hg : ∀ d, o.dst = some d → g d = some v) :
    QOp P c.n rg.ops.toArray g ⟨m, pvx⟩ o := by
  refine ⟨v, (st1.E.frm β).only (rg.look o), fun t u ht => ?_, fun a w ha hr => .inl ⟨hw a ha, ?_⟩, hd, hg⟩
  · obtain ⟨e1, e2⟩ := Frm.only_get _ _ _ ht
    refine ⟨?_, e2⟩
    rw [Env.frm_get] at e1
    cases hs : st1.E.get t with
    | none => rw [hs] at e1; cases e1
    | some s =>
      rw [hs] at e1
      cases e1
      exact hM _ (Env.get_mem hs) e2
  · exact hq a w (aa3 ha) (hr.fewer hs hn)
theorem QOp.no' {g : Nat → Option Value} {st1 : St} {o : Oper} {h : Hp} (hd : okD o c.n = true) (hM : ∀ p ∈ st1.E, p.1 ∈ rg.look o → g p.1 = some (p.2.val β))
    (hw : ∀ a, Agree c.n ((st1.E.frm β).only (rg.look o)) a → Region.wanted o (yielded rg.ops.toArray a.tmps) = false) (hg : ∀ d, o.dst = some d → g d = some undef) :
    QOp P c.n rg.ops.toArray g h o := by
  refine ⟨undef, (st1.E.frm β).only (rg.look o), fun t u ht => ?_, fun a w ha hr => .inr ⟨hw a ha, rfl⟩, hd, hg⟩
  obtain ⟨e1, e2⟩ := Frm.only_get _ _ _ ht
  refine ⟨?_, e2⟩
  rw [Env.frm_get] at e1
  cases hs : st1.E.get t with
  | none => rw [hs] at e1; cases e1
  | some s =>
    rw [hs] at e1
    cases e1
    exact hM _ (Env.get_mem hs) e2
def Obs (P : Program) (n : Nat) (β : Nat → Nat) (rg : Rg) (pv : List (Nat × List CV)) (g : Nat → Option Value) (hcs : Seen) (i : Nat) : Prop :=
  ∀ o, rg.ops[i]? = some o → ∀ m pvx, (∀ x ∈ (hpOf β m (rg.pvq pv i)).pv, x ∈ pvx) → (∀ R, (i, R) ∈ hcs → R m) → QOp P n rg.ops.toArray g ⟨m, pvx⟩ o
theorem aiS {pv : List (Nat × List CV)} {i : Nat} : (rg.pvq pv i).Sublist pv := List.filter_sublist
def KV (c : Ctx P) (rg : Rg) (E : Env) (e : Nat) : Option (Nat × Nat × List Value) := (ahf c rg E e).map fun x => (x.1, x.2.1, x.2.2.map CV.val)
theorem tC {E : Env} {u : Nat} : ∀ {ts : List Nat}, (ij E ts).get u = match memN ts u with | true => E.get u | false => none
  | [] => rfl
  | t :: r => by
    simp only [ij, memN]
    cases ht : E.get t with
    | none =>
      simp only
      rw [tC (ts := r)]
      cases hb : Nat.beq t u with
      | true =>
        have := Nat.eq_of_beq_eq_true hb
        subst this
        simp only [ht]
        cases memN r t <;> rfl
      | false => rfl
    | some s =>
      simp only [Env.get]
      cases hb : Nat.beq t u with
      | true =>
        have := Nat.eq_of_beq_eq_true hb
        subst this
        exact ht.symm
      | false => exact tC
def ahC (a b : Option SV) : Prop := a = b ∨ ∃ x sm, a = some (.t (.sg (.v (.bool x) sm))) ∧ b = some (.t (.sg (.kb x)))
theorem ael {lds : List Nat} {F F' : Env} (h : ∀ u, ahC (F.get u) (F'.get u)) (x : Operand) : agI lds F' x = agI lds F x := by
  cases x with
  | tmp d =>
    unfold agI
    simp only
    cases memN lds d with
    | true => rfl
    | false =>
      rcases h d with e | ⟨b, sm, e1, e2⟩
      · simp only [e]
      · simp only [e1, e2]
  | _ => rfl
theorem afb {a : Option (Nat × Nat)} {sz : Option Nat} {y y' : Option SV} (h : ahC y y') : (aid a sz y').map (fun x => (x.1, x.2.1, x.2.2.map CV.val)) = (aid a sz y).map fun x => (x.1, x.2.1, x.2.2.map CV.val) := by
  rcases h with rfl | ⟨b, sm, rfl, rfl⟩
  · rfl
  · cases a with
    | none => rfl
    | some a =>
      cases sz with
      | none => rfl
      | some sz =>
        have e1 : oneC (.v (.bool b) sm) = true := rfl
        have e2 : oneC (.kb b) = true := rfl
        simp only [aid, e1, e2]
        cases Nat.beq sz 1 <;> rfl
theorem afU {E E' : Env} {e : Nat} (h : ∀ o, rg.ops[e]? = some o → ∀ u ∈ rg.look o, ahC (E.get u) (E'.get u)) : KV c rg E' e = KV c rg E e := by
  unfold KV ahf
  cases ho : rg.ops[e]? with
  | none => rfl
  | some o =>
    have h' : ∀ u, ahC ((ij E (rg.look o)).get u) ((ij E' (rg.look o)).get u) := by
      intro u
      rw [tC, tC]
      cases hm : memN (rg.look o) u with
      | true => exact h o ho u (i7.1 hm)
      | false => exact .inl rfl
    simp only
    split
    · rename_i t x y hop hdst hg
      rw [ael h']
      refine afb ?_
      cases y with
      | tmp t => exact h' t
      | _ => exact .inl rfl
    · rfl
theorem ahh {E : Env} {d : Option Nat} {s : SV} {u : Nat} (h : d ≠ some u) : (E.put d s).get u = E.get u := by
  cases d with
  | none => rfl
  | some d =>
    have hne : d ≠ u := fun e => h (by rw [e])
    show Env.get ((d, s) :: E.filter (fun p => !Nat.beq p.1 d)) u = _
    have hb : Nat.beq d u = false := by
      cases hb : Nat.beq d u
      · rfl
      · exact absurd (Nat.eq_of_beq_eq_true hb) hne
    simp only [Env.get, hb]
    induction E with
    | nil => rfl
    | cons p r ih =>
      obtain ⟨i, s'⟩ := p
      simp only [List.filter_cons, Env.get]
      cases hi : Nat.beq i d with
      | true =>
        have := Nat.eq_of_beq_eq_true hi
        subst this
        simp only [Bool.not_true, Bool.false_eq_true, if_false, hb]
        exact ih
      | false =>
        simp only [Bool.not_false, if_true, Env.get]
        cases Nat.beq i u with
        | true => rfl
        | false => exact ih
abbrev Lst := List (Nat × Nat × Nat × List Value)
theorem aaT {i : Nat} {d : Option Nat} : ∀ {l : List (Nat × Nat)}, aaB rg i d l = true → ∀ x ∈ l, i ∉ rg.an x.1 → ∀ o, rg.ops[x.1]? = some o → ∀ u, d = some u → u ∉ rg.look o
  | [], _, x, hx => by cases hx
  | y :: r, h, x, hx => by
    intro hi o ho u hu
    simp only [aaB, Bool.and_eq_true] at h
    rcases List.mem_cons.1 hx with rfl | hx
    · have h1 := h.1
      have hi' : memN (rg.an x.1) i = false := by rw [← Bool.not_eq_true, i7]; exact hi
      rw [hi', ho, hu] at h1
      simp only [Bool.false_or, Bool.not_eq_true'] at h1
      intro hm
      rw [i7.2 hm] at h1; cases h1
    · exact aaT h.2 x hx hi o ho u hu
structure KW (c : Ctx P) (rg : Rg) (E : Env) (got : List Nat) (Ws : Lst) : Prop where
  kv : ∀ w ∈ Ws, KV c rg E w.1 = some w.2
  key : ∀ w ∈ Ws, (w.1, w.2.1) ∈ rg.tks
  got : ∀ w ∈ Ws, ∀ i ∈ rg.an w.1, memN rg.E i = false → i ∈ got
theorem KW.put {E : Env} {got got' : List Nat} {Ws : Lst} {i : Nat} {d : Option Nat} {s : SV} (h : KW c rg E got Ws) (hp : aaB rg i d rg.tks = true) (hi : ∀ w ∈ Ws, i ∉ rg.an w.1) (hg : ∀ x ∈ got, x ∈ got') : KW c rg (E.put d s) got' Ws := by
  refine ⟨fun w hw => ?_, h.key, fun w hw j hj hE => hg j (h.got w hw j hj hE)⟩
  rw [← h.kv w hw]
  refine afU fun o ho u hu => .inl (ahh fun e => aaT hp _ (h.key w hw) (hi w hw) o ho u e hu).symm
theorem KW.know {st : St} {got : List Nat} {Ws : Lst} {t : Nat} {b : Bool} {sm : Bool} (h : KW c rg st.E got Ws) (ht : st.E.get t = some (.t (.sg (.v (.bool b) sm)))) : KW c rg (st.know t b).E got Ws := by
  refine ⟨fun w hw => ?_, h.key, h.got⟩
  rw [← h.kv w hw]
  refine afU fun o ho u hu => ?_
  show ahC _ (Env.get ((t, .t (.sg (.kb b))) :: st.E) u)
  simp only [Env.get]
  cases hb : Nat.beq t u with
  | true =>
    have := Nat.eq_of_beq_eq_true hb
    subst this
    exact .inr ⟨b, sm, ht, rfl⟩
  | false => exact .inl rfl
structure Inv (P : Program) (n : Nat) (β : Nat → Nat) (rg : Rg) (g : Nat → Option Value) (Dp got : List Nat) (hcs : Seen) (st : St) : Prop where
  env : ∀ p ∈ st.E, g p.1 = some (p.2.val β)
  hold : ∀ x ∈ hcs, x.2 st.m
  ext : ∀ x ∈ hcs, ∀ m m', MExt m m' → x.2 m → x.2 m'
  obs : ∀ i ∈ got, mL rg Dp i = false → Obs P n β rg st.pv g hcs i
structure Fr (rg : Rg) (st st' : St) : Prop where
  m : st'.m = st.m
  pv : st'.pv = st.pv
  dirty : st'.dirty = st.dirty
  env : ∀ p ∈ st.E, p ∈ st'.E ∨ p.1 ∈ uC rg.ops
  key : ∀ p ∈ st'.E, (∃ q ∈ st.E, q.1 = p.1) ∨ ∃ (j : Nat) (o : Oper), rg.ops[j]? = some o ∧ o.dst = some p.1 ∧ memN rg.lays j = false
theorem Fr.refl (st : St) : Fr rg st st := ⟨rfl, rfl, rfl, fun p hp => .inl hp, fun p hp => .inl ⟨p, hp, rfl⟩⟩
theorem Fr.trans {a b d : St} (h : Fr rg a b) (k : Fr rg b d) : Fr rg a d :=
  ⟨k.m.trans h.m, k.pv.trans h.pv, k.dirty.trans h.dirty, fun p hp => by
    rcases h.env p hp with h1 | h1
    · exact k.env p h1
    · exact .inr h1, fun p hp => by
    rcases k.key p hp with ⟨q, h1, h2⟩ | h1
    · rcases h.key q h1 with ⟨r, h3, h4⟩ | h3
      · exact .inl ⟨r, h3, h4.trans h2⟩
      · rw [h2] at h3; exact .inr h3
    · exact .inr h1⟩
theorem tp {ops : List Oper} : ∀ {i : Nat} {o : Oper} {d : Nat}, ops[i]? = some o → o.dst = some d → d ∈ uC ops := by
  induction ops with
  | nil => intro i o d h; simp at h
  | cons x r ih =>
    intro i o d h hd
    cases i with
    | zero => simp at h; subst h; simp [uC, hd]
    | succ i => simp at h; exact List.mem_append_right _ (ih h hd)
theorem Fr.put {st : St} {i : Nat} {o : Oper} {s : SV} (ho : rg.ops[i]? = some o) (hl : memN rg.lays i = false) : Fr rg st (st.put o.dst s) := by
  refine ⟨rfl, rfl, rfl, fun p hp => ?_, fun p hp => ?_⟩
  · unfold St.put Env.put
    cases hd : o.dst with
    | none => exact .inl hp
    | some d =>
      by_cases e : p.1 = d
      · exact .inr (e ▸ tp ho hd)
      · refine .inl (List.mem_cons_of_mem _ (List.mem_filter.2 ⟨hp, ?_⟩))
        cases hb : Nat.beq p.1 d
        · rfl
        · exact absurd (Nat.eq_of_beq_eq_true hb) e
  · unfold St.put Env.put at hp
    cases hd : o.dst with
    | none => rw [hd] at hp; exact .inl ⟨p, hp, rfl⟩
    | some d =>
      rw [hd] at hp
      rcases List.mem_cons.1 hp with rfl | hp
      · exact .inr ⟨i, o, ho, hd, hl⟩
      · exact .inl ⟨p, (List.mem_filter.1 hp).1, rfl⟩
theorem Fr.know {st : St} {t : Nat} {b : Bool} {s : SV} (h : st.E.get t = some s) : Fr rg st (st.know t b) := by
  refine ⟨rfl, rfl, rfl, fun p hp => .inl (List.mem_cons_of_mem _ hp), fun p hp => ?_⟩
  rcases List.mem_cons.1 hp with rfl | hp
  · exact .inl ⟨_, Env.get_mem h, rfl⟩
  · exact .inl ⟨p, hp, rfl⟩
theorem abt {E : Env} {g : Nat → Option Value} {d : Option Nat} {s : SV} {v : Value} (h : ∀ p ∈ E, g p.1 = some (p.2.val β)) (hv : d = none ∨ v = s.val β) : ∀ p ∈ E.put d s, putG g d v p.1 = some (p.2.val β) := by
  intro p hp
  unfold Env.put at hp
  cases d with
  | none => simpa [putG] using h p hp
  | some d =>
    rcases List.mem_cons.1 hp with rfl | hp
    · rcases hv with e | e
      · cases e
      · simp [putG, e]
    · obtain ⟨h1, h2⟩ := List.mem_filter.1 hp
      have : d ≠ p.1 := fun e => by subst e; simp at h2
      simpa [putG, this] using h p h1
theorem xg {skip : List Nat} {d : Option Nat} : ∀ {l : List Nat}, ahY rg skip d l = true → ∀ i ∈ l, i ∉ skip → ∀ o, rg.ops[i]? = some o → (∀ x, d = some x → x ∉ rg.look o) ∧ ∀ x, d = some x → o.dst ≠ some x
  | [], _, i, hi => by cases hi
  | j :: r, h, i, hi => by
    intro hs o ho
    simp only [ahY, Bool.and_eq_true] at h
    rcases List.mem_cons.1 hi with rfl | hi
    · have hs' : memN skip i = false := by rw [← Bool.not_eq_true, i7]; exact hs
      have h1 := h.1
      rw [hs', ho] at h1
      cases d with
      | none => exact ⟨fun x e => (by cases e), fun x e => (by cases e)⟩
      | some d =>
        simp only [Bool.false_or, Bool.and_eq_true, Bool.not_eq_true'] at h1
        refine ⟨fun x e => ?_, fun x e => ?_⟩ <;> cases e
        · intro hm; rw [i7.2 hm] at h1; cases h1.1
        · intro hm; rw [amI.2 hm] at h1; cases h1.2
    · exact xg h.2 i hi hs o ho
theorem xw {T : TTab} {E : Env} {o : Oper} {i : Nat} {s : SV} {hcs : Seen} {x : Nat × (Heap → Prop)} (h : x ∈ oH T E o i s hcs) : x ∈ hcs ∨ (x.1 = i ∧ seen T E o s = some x.2) := by
  unfold oH at h
  split at h
  · rename_i R hR
    rcases List.mem_append.1 h with h | h
    · exact .inl h
    · have := List.mem_singleton.1 h
      subst this
      exact .inr ⟨rfl, hR⟩
  · exact .inl h
theorem afl {T : TTab} {E : Env} {o : Oper} {i : Nat} {s : SV} {hcs : Seen} {x : Nat × (Heap → Prop)} (h : x ∈ hcs) : x ∈ oH T E o i s hcs := by
  unfold oH
  split
  · exact List.mem_append_left _ h
  · exact h
theorem Obs.put {pv : List (Nat × List CV)} {g : Nat → Option Value} {hcs hcs' : Seen} {i : Nat} {d : Option Nat} {v : Value} (h : Obs P c.n β rg pv g hcs i) (h1 : ∀ o, rg.ops[i]? = some o → (∀ x, d = some x → x ∉ rg.look o) ∧ ∀ x, d = some x → o.dst ≠ some x)
    (h2 : ∀ R, (i, R) ∈ hcs → (i, R) ∈ hcs') : Obs P c.n β rg pv (putG g d v) hcs' i := by
  intro o ho
  obtain ⟨e1, e2⟩ := h1 o ho
  exact fun m pvx hs hR => (h o ho m pvx hs fun R hr => hR R (h2 R hr)).put e1 e2
theorem aeC {Ws : Lst} {i : Nat} {Dp got : List Nat} {hcs : Seen} {st : St} {g : Nat → Option Value} {k : Seen → St → Prop} (hkw : KW c rg st.E got Ws) (hin : i ∉ got) (hiE : memN rg.E i = false) (hT : TTab.Ok P c.T) (hn : ((hpOf β st.m st.pv).pv.map (·.1)).Nodup) (hl : memN rg.lays i = false) (h : akS c rg i got hcs st k) (hi : Inv P c.n β rg g Dp got hcs st) {X : Prop}
    (hk : ∀ hcs' st' g', k hcs' st' → Inv P c.n β rg g' Dp (i :: got) hcs' st' → (∀ t, g' t ≠ g t → ∃ o, rg.ops[i]? = some o ∧ o.dst = some t) → Fr rg st st' → KW c rg st'.E (i :: got) Ws → X) : X := by
  unfold akS at h
  split at h
  · exact h.elim
  rename_i o ho
  split at h
  · exact h.elim
  rename_i hb
  simp only [Bool.and_eq_true] at hb
  obtain ⟨⟨⟨hd, hput⟩, hself⟩, hpt⟩ := hb
  have hput := xg hput
  have hiw : ∀ w ∈ Ws, i ∉ rg.an w.1 := fun w hw hm => hin (hkw.got w hw i hm hiE)
  have hself : ∀ d, o.dst = some d → d ∉ rg.look o := by
    intro d e hm
    unfold akd at hself
    rw [e] at hself
    simp only at hself
    rw [i7.2 hm] at hself
    cases hself
  have frK : ∀ {t : Nat} {v : Value} {d : Option Nat}, (putG g d v) t ≠ g t → d = some t := by
    intro t v d hne
    unfold putG at hne
    split at hne
    · assumption
    · exact absurd rfl hne
  have go : ∀ st1 : St, st1.m = st.m → st1.pv = st.pv → (∀ p ∈ st1.E, g p.1 = some (p.2.val β)) → Fr rg st st1 → KW c rg st1.E got Ws → (∀ a, Agree c.n ((st1.E.frm β).only (rg.look o)) a → Region.wanted o (yielded rg.ops.toArray a.tmps) = true) →
      (shQ c.T false o { st1 with E := ij st1.E (rg.look o), pv := rg.pvq st1.pv i } fun s => k (oH c.T (ij st1.E (rg.look o)) o i s hcs) (st1.put o.dst s)) → X := by
    intro st1 em ep henv hfr hkw1 hw h1
    obtain ⟨s, hk1, hS, hQ⟩ := aiP (n := c.n) β hT h1
    have hM : ∀ p ∈ st1.E, p.1 ∈ rg.look o → putG g o.dst (s.val β) p.1 = some (p.2.val β) := by
      intro p hp hm
      unfold putG
      rw [if_neg (fun e => hself _ e hm)]
      exact henv p hp
    have hgd : ∀ d, o.dst = some d → putG g o.dst (s.val β) d = some (s.val β) := fun d e => by simp [putG, e]
    refine hk _ _ (putG g o.dst (s.val β)) hk1 ⟨abt henv (.inr rfl), fun x hx => ?_, fun x hx m m' e hR => ?_, fun j hj hp => ?_⟩ (fun t hne => ⟨o, ho, frK hne⟩) (hfr.trans (Fr.put ho hl)) (hkw1.put hpt hiw fun x hx => List.mem_cons_of_mem _ hx)
    · rcases xw hx with h2 | ⟨_, h2⟩
      · show x.2 st1.m
        rw [em]; exact hi.hold x h2
      · unfold Still at hS
        rw [h2] at hS
        exact hS
    · rcases xw hx with h2 | ⟨_, h2⟩
      · exact hi.ext x h2 m m' e hR
      · have hS' : Still c.T (ij st1.E (rg.look o)) o s m := by unfold Still; rw [h2]; exact hR
        have := hS'.ext e
        unfold Still at this
        rw [h2] at this
        exact this
    · rcases List.mem_cons.1 hj with rfl | hj
      · intro o' ho'
        rw [ho] at ho'
        cases ho'
        refine fun m pvx hs hR => QOp.mk' (β := β) (st1 := st1) (pv := rg.pvq st1.pv _) hd hM hw (hQ m ?_) hs ?_ hgd
        · unfold Still
          split
          · trivial
          · rename_i R hR'
            exact hR R (by unfold oH; rw [hR']; exact List.mem_append_right _ (List.mem_singleton.2 rfl))
        · rw [ep]
          exact hn.sublist (((aiS (rg := rg)).map _).map _)
      · show Obs P c.n β rg st1.pv _ _ j
        rw [ep]
        exact (hi.obs j hj hp).put (fun o' ho' => hput j hj (by simp) o' ho') fun R hR => afl hR
  have skip : ∀ st1 : St, st1.m = st.m → st1.pv = st.pv → (∀ p ∈ st1.E, g p.1 = some (p.2.val β)) → Fr rg st st1 → KW c rg st1.E got Ws → (∀ a, Agree c.n ((st1.E.frm β).only (rg.look o)) a → Region.wanted o (yielded rg.ops.toArray a.tmps) = false) → k hcs (st1.put o.dst .un) → X := by
    intro st1 em ep henv hfr hkw1 hw h1
    have hM : ∀ p ∈ st1.E, p.1 ∈ rg.look o → putG g o.dst undef p.1 = some (p.2.val β) := by
      intro p hp hm
      unfold putG
      rw [if_neg (fun e => hself _ e hm)]
      exact henv p hp
    have hgd : ∀ d, o.dst = some d → putG g o.dst undef d = some undef := fun d e => by simp [putG, e]
    refine hk _ _ (putG g o.dst undef) h1 ⟨abt henv (.inr rfl), fun x hx => ?_, hi.ext, fun j hj hp => ?_⟩ (fun t hne => ⟨o, ho, frK hne⟩) (hfr.trans (Fr.put ho hl)) (hkw1.put hpt hiw fun x hx => List.mem_cons_of_mem _ hx)
    · show x.2 st1.m
      rw [em]; exact hi.hold x hx
    · rcases List.mem_cons.1 hj with rfl | hj
      · intro o' ho'
        rw [ho] at ho'
        cases ho'
        exact fun m pvx hs hR => QOp.no' (β := β) hd hM hw hgd
      · show Obs P c.n β rg st1.pv _ _ j
        rw [ep]
        exact (hi.obs j hj hp).put (fun o' ho' => hput j hj (by simp) o' ho') fun R hR => hR
  have at' : ∀ {E : Env} {t : Nat} {s : SV}, E.get t = some s → (E.frm β).get t = some (s.val β) := fun h => by rw [Env.frm_get, h]; rfl
  have hj' : ∀ {j t : Nat}, fB rg.ops j = some t → (rg.ops[j]?).bind (·.dst) = some t := by
    intro j t h
    have := wD h
    simpa using this
  simp only at h
  split at h
  · rename_i hg
    exact go st rfl rfl hi.env (Fr.refl _) hkw (fun a _ => by simp [Region.wanted, hg]) h
  · rename_i j want hg
    split at h
    · exact h.elim
    · rename_i t ht
      split at h
      · rename_i hE
        exact skip st rfl rfl hi.env (Fr.refl _) hkw (lm hg (hj' ht) (at' hE) (by simp [SV.val, undef])) h
      · rename_i b hE
        split at h
        · rename_i e
          have e := am3.1 e
          subst e
          exact go st rfl rfl hi.env (Fr.refl _) hkw (mT hg (hj' ht) (at' hE)) h
        · rename_i e
          refine skip st rfl rfl hi.env (Fr.refl _) hkw (lm hg (hj' ht) (at' hE) fun e' => ?_) h
          have : b = want := by simpa [SV.val, TV.val, CV.val] using e'
          rw [am3.2 this] at e
          cases e
      · rename_i b sm hE
        have key : ∀ b', b = b' → (match eqB b' want with
            | true => shQ c.T false o { (st.know t b') with E := ij (st.know t b').E (rg.look o), pv := rg.pvq (st.know t b').pv i } fun s => k (oH c.T (ij (st.know t b').E (rg.look o)) o i s hcs) ((st.know t b').put o.dst s)
            | false => k hcs ((st.know t b').put o.dst .un)) → X := by
          intro b' e1 h1
          subst e1
          have henv : ∀ p ∈ (st.know t b).E, g p.1 = some (p.2.val β) := by
            intro p hp
            rcases List.mem_cons.1 hp with rfl | hp
            · exact (hi.env (t, .t (.sg (.v (.bool b) sm))) (Env.get_mem hE) : g t = some (.bool b))
            · exact hi.env p hp
          have hE' : (st.know t b).E.get t = some (.t (.sg (.kb b))) := by
            show Env.get ((t, .t (.sg (.kb b))) :: st.E) t = _
            simp [Env.get]
          split at h1
          · rename_i e
            have e := am3.1 e
            subst e
            exact go (st.know t b) rfl rfl henv (Fr.know hE) (hkw.know hE) (mT hg (hj' ht) (at' hE')) h1
          · rename_i e
            refine skip (st.know t b) rfl rfl henv (Fr.know hE) (hkw.know hE) (lm hg (hj' ht) (at' hE') fun e' => ?_) h1
            have : b = want := by simpa [SV.val, TV.val, CV.val] using e'
            rw [am3.2 this] at e
            cases e
        cases hb : b
        · exact key false hb (h.2 hb)
        · exact key true hb (h.1 hb)
      · exact h.elim
theorem ail {Ws : Lst} {Dp : List Nat} (hT : TTab.Ok P c.T) : ∀ (l : List Nat) {got : List Nat} {hcs : Seen} {st : St} {g : Nat → Option Value} {k : List Nat → Seen → St → Prop}, ((hpOf β st.m st.pv).pv.map (·.1)).Nodup → (∀ i, memN rg.lays i = true → memN rg.E i = true) → clo c rg Dp l got hcs st k → Inv P c.n β rg g Dp got hcs st → KW c rg st.E got Ws → ∀ {X : Prop},
    (∀ got' hcs' st' g', k got' hcs' st' → Inv P c.n β rg g' Dp got' hcs' st' → (∀ t, g' t ≠ g t → ∃ (j : Nat) (o : Oper), rg.ops[j]? = some o ∧ o.dst = some t ∧ memN rg.E j = false ∧ j ∉ got ∧ nG (rg.avp j) Dp = true) → (∀ i ∈ got, i ∈ got') → (∀ i ∈ got', i ∈ got ∨ memN rg.E i = false) →
      (∀ i ∈ l, memN rg.E i = true ∨ i ∈ got' ∨ nG (rg.avp i) Dp = false) → Fr rg st st' → KW c rg st'.E got' Ws → X) → X := by
  intro l
  induction l with
  | nil =>
    intro got hcs st g k hn hl h hi hkw X hk
    exact hk got hcs st g h hi (fun t hne => absurd rfl hne) (fun i hi => hi) (fun i hi => .inl hi) (fun i hi => by cases hi) (Fr.refl _) hkw
  | cons i l ih =>
    intro got hcs st g k hn hl h hi hkw X hk
    simp only [clo] at h
    split at h
    · rename_i hb
      refine ih hn hl h hi hkw fun got' hcs' st' g' h1 h2 h3 h4 h4' h5 h6 h7 => hk got' hcs' st' g' h1 h2 h3 h4 h4' (fun j hj => ?_) h6 h7
      rcases List.mem_cons.1 hj with rfl | hj
      · simp only [Bool.or_eq_true, Bool.not_eq_true'] at hb
        rcases hb with (hb | hb) | hb
        · exact .inl hb
        · exact .inr (.inl (h4 _ (i7.1 hb)))
        · exact .inr (.inr hb)
      · exact h5 j hj
    · rename_i hb
      simp only [Bool.or_eq_false_iff, Bool.not_eq_false'] at hb
      obtain ⟨⟨b1, b2⟩, b3⟩ := hb
      have b2 : i ∉ got := fun hm => by rw [i7.2 hm] at b2; cases b2
      have hl' : memN rg.lays i = false := by
        cases hc : memN rg.lays i
        · rfl
        · rw [hl i hc] at b1; cases b1
      refine aeC hkw b2 b1 hT hn hl' h hi fun hcs1 st1 g1 h1 h2 h3 h4 hkw1 => ?_
      refine ih (by rw [h4.m, h4.pv]; exact hn) hl h1 h2 hkw1 fun got' hcs' st' g' k1 k2 k3 k4 k4' k5 k6 k7 => hk got' hcs' st' g' k1 k2 (fun t hne => ?_) (fun j hj => k4 j (List.mem_cons_of_mem _ hj)) (fun j hj => ?_) (fun j hj => ?_) (h4.trans k6) k7
      · by_cases e : g1 t = g t
        · obtain ⟨j, o, j1, j2, j3, j4, j5⟩ := k3 t (by rw [e]; exact hne)
          exact ⟨j, o, j1, j2, j3, fun hm => j4 (List.mem_cons_of_mem _ hm), j5⟩
        · obtain ⟨o, j1, j2⟩ := h3 t e
          exact ⟨i, o, j1, j2, b1, b2, b3⟩
      · rcases k4' j hj with h | h
        · rcases List.mem_cons.1 h with rfl | h
          · exact .inr b1
          · exact .inl h
        · exact .inr h
      · rcases List.mem_cons.1 hj with rfl | hj
        · exact .inr (.inl (k4 _ (List.mem_cons_self ..)))
        · exact k5 j hj
end
end Go.Lift

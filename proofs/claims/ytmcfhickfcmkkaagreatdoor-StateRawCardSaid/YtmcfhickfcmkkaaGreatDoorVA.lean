/-
  Laws that the proof of this claim's statement leans on, each proved under the conditions that it states.
-/
import Derived.Test.YtmcfhickfcmkkaaGreatDoorFwC
set_option linter.unusedVariables false
set_option linter.unusedSimpArgs false
namespace Go.Lift
open Go
inductive CV where
  | v (x : Value) (small : Bool)
  | kb (b : Bool)
  | adr (a : Addr)
  | fnv (v : FnV)
def CV.val : CV → Value
  | .v x _ => x
  | .kb b => .bool b
  | .adr a => .pointer (some a)
  | .fnv u => FnV.toV u
inductive TV where
  | sg (x : CV)
  | agg (l : List CV)
def TV.val : TV → Value
  | .sg c => c.val
  | .agg l => .agg (l.map CV.val).toArray
def TV.cells : TV → List CV
  | .sg c => [c]
  | .agg l => l
inductive SV where
  | t (x : TV)
  | pv (k off : Nat)
  | tup (l : List TV)
  | un
def SV.val (β : Nat → Nat) : SV → Value
  | .t x => x.val
  | .pv k off => .pointer (some ⟨β k, off, none⟩)
  | .tup l => .tuple (l.map TV.val).toArray
  | .un => undef
def SV.val0 : SV → Option Value
  | .t x => some x.val
  | .pv _ _ => none
  | .tup l => some (.tuple (l.map TV.val).toArray)
  | .un => some undef
theorem SV.val0uval {s : SV} {v : Value} (β : Nat → Nat) (h : s.val0 = some v) : s.val β = v := by
  cases s <;> simp_all [SV.val0, SV.val]
abbrev Env := List (Nat × SV)
def Env.get : Env → Nat → Option SV
  | [], _ => none
  | (i, s) :: r, t => match Nat.beq i t with
    | true => some s
    | false => Env.get r t
def Env.put (E : Env) (d : Option Nat) (s : SV) : Env :=
  match d with
  | none => E
  | some d => (d, s) :: E.filter (fun p => !Nat.beq p.1 d)
theorem Env.get_mem : ∀ {E : Env} {t : Nat} {s : SV}, E.get t = some s → (t, s) ∈ E
  | (i, s') :: r, t, s, h => by
    simp only [Env.get] at h
    split at h
    · rename_i hb
      have := Nat.eq_of_beq_eq_true hb
      subst this
      cases h
      exact List.mem_cons_self ..
    · exact List.mem_cons_of_mem _ (Env.get_mem h)
def ku (v : Value) : CV := match v with
  | .bool b => .kb b
  | .string s => .v (.string s) false
  | v => .v v true
theorem tU (v : Value) : (ku v).val = v := by cases v <;> rfl
def afO (v : Value) : TV := match v with
  | .agg cs => .agg (cs.toList.map ku)
  | v => .sg (ku v)
theorem aaH (v : Value) : (afO v).val = v := by
  cases v with
  | agg cs =>
    have : (fun x => (ku x).val) = (fun x => x) := funext tU
    simp [afO, TV.val, Function.comp_def, this]
  | _ => simp only [afO, TV.val, tU]
def Env.ev (E : Env) : Operand → Option SV
  | .tmp t => E.get t
  | .const v => some (.t (afO v))
  | .global g => some (.t (.sg (.adr ⟨g, 0, none⟩)))
  | .func f => some (.t (.sg (.v (.func (.func f) #[] #[]) true)))
structure St where
  E : Env
  m : Heap
  pv : List (Nat × List CV)
  dirty : List (Nat × Bool)
  mem : Bool
def St.put (st : St) (d : Option Nat) (s : SV) : St := { st with E := st.E.put d s }
structure Holds (n : Nat) (β : Nat → Nat) (E : Env) (a : Act) : Prop where
  size : a.tmps.size = n
  defers : a.defers = []
  at' : ∀ p ∈ E, a.tmps[p.1]? = some (p.2.val β)
def hpOf (β : Nat → Nat) (m : Heap) (pv : List (Nat × List CV)) : Hp := ⟨m, pv.map fun p => (β p.1, p.2.map CV.val)⟩
def Env.frm (β : Nat → Nat) (E : Env) : Frm := E.map fun p => (p.1, p.2.val β)
def Env.frm0 : Env → Frm
  | [] => []
  | (t, s) :: r => match s.val0 with
    | some v => (t, v) :: Env.frm0 r
    | none => Env.frm0 r
variable {n : Nat} {β : Nat → Nat} {E : Env} {a : Act} {B : Base} {w : World}
theorem Holds.agree {L : Frm} (h : Holds n β E a) (hL : ∀ p ∈ L, ∃ s, (p.1, s) ∈ E ∧ s.val β = p.2) : Agree n L a :=
  ⟨h.size, h.defers, fun t v hv => by
    obtain ⟨s, h1, h2⟩ := hL _ (Frm.get_mem _ _ _ hv)
    rw [h.at' _ h1, h2]⟩
theorem Holds.frm (h : Holds n β E a) : Agree n (E.frm β) a := h.agree fun p hp => by
  obtain ⟨q, hq, rfl⟩ := List.mem_map.1 hp
  exact ⟨q.2, hq, rfl⟩
theorem Env.frm0umem : ∀ {E : Env} {p : Nat × Value}, p ∈ E.frm0 → ∃ s, (p.1, s) ∈ E ∧ s.val0 = some p.2
  | (t, s) :: r, p, h => by
    simp only [Env.frm0] at h
    split at h
    · rename_i v hv
      rcases List.mem_cons.1 h with rfl | h
      · exact ⟨s, List.mem_cons_self .., hv⟩
      · obtain ⟨s', h1, h2⟩ := Env.frm0umem h
        exact ⟨s', List.mem_cons_of_mem _ h1, h2⟩
    · obtain ⟨s', h1, h2⟩ := Env.frm0umem h
      exact ⟨s', List.mem_cons_of_mem _ h1, h2⟩
theorem Holds.frm0 (h : Holds n β E a) : Agree n E.frm0 a := h.agree fun p hp => by
  obtain ⟨s, h1, h2⟩ := Env.frm0umem hp
  exact ⟨s, h1, SV.val0uval β h2⟩
theorem Holds.eval (h : Holds n β E a) {x : Operand} {s : SV} (hx : E.ev x = some s) : a.eval x = s.val β := by
  cases x with
  | tmp t =>
    have := h.at' _ (Env.get_mem hx)
    simp only at this
    simp [Act.eval, this]
  | const v => cases hx; simp [Act.eval, SV.val, aaH]
  | global g => cases hx; rfl
  | func f => cases hx; rfl
theorem Holds.put (h : Holds n β E a) {d : Option Nat} {s : SV} {v : Value} (hd : ∀ t, d = some t → t < n) (hv : v = s.val β) : Holds n β (E.put d s) (a.put d v) := by
  cases d with
  | none => exact h
  | some d =>
    have hd := hd d rfl
    refine ⟨by simpa [Act.put] using h.size, h.defers, fun p hp => ?_⟩
    simp only [Env.put] at hp
    have hsz := h.size
    rcases List.mem_cons.1 hp with rfl | hp
    · simp [Act.put, hsz, hd, hv]
    · obtain ⟨h1, h2⟩ := List.mem_filter.1 hp
      have hne : d ≠ p.1 := by
        intro e
        subst e
        simp at h2
      simpa [Act.put, Array.getElem?_setIfInBounds_ne hne] using h.at' p h1
theorem Holds.more (h : Holds n β E a) {t : Nat} {s s' : SV} (ht : E.get t = some s) (e : s.val β = s'.val β) : Holds n β ((t, s') :: E) a :=
  ⟨h.size, h.defers, fun p hp => by
    rcases List.mem_cons.1 hp with rfl | hp
    · simp only [← e]; exact h.at' _ (Env.get_mem ht)
    · exact h.at' p hp⟩
theorem Env.ev_frm (β : Nat → Nat) {x : Operand} {s : SV} (hx : E.ev x = some s) : (E.frm β).ev x = some (s.val β) := by
  cases x with
  | tmp t =>
    show (E.frm β).get t = _
    have hx : E.get t = some s := hx
    induction E with
    | nil => cases hx
    | cons p r ih =>
      obtain ⟨i, s'⟩ := p
      simp only [Env.get] at hx
      simp only [Env.frm, List.map_cons, Frm.get]
      cases hb : Nat.beq i t with
      | true => rw [hb] at hx; cases hx; simp only [hb]
      | false => rw [hb] at hx; simp only [hb]; exact ih (show Env.ev r (.tmp t) = some s from hx) hx
  | const v => cases hx; simp [Frm.ev, SV.val, aaH]
  | global g => cases hx; rfl
  | func f => cases hx; rfl
inductive Kd where
  | int (k : IntKind) | bool | str | ptr | sl | map | val | adr | fn
def Kd.ty : Kd → Type
  | .int _ => Int | .bool => Bool | .str => ByteArray | .ptr => Option Addr | .sl => Sl | .map => Option Nat | .val => Value | .adr => Addr | .fn => FnV
def Kd.toV : (k : Kd) → k.ty → Value
  | .int k => Value.int k | .bool => Value.bool | .str => Value.string | .ptr => Value.pointer | .sl => Sl.toV | .map => Value.map | .val => id | .adr => fun a => .pointer (some a) | .fn => FnV.toV
def Kd.cv : (k : Kd) → k.ty → CV
  | .int k => fun x => .v (Value.int k x) true
  | .bool => fun x => .v (Value.bool x) true
  | .str => fun x => .v (Value.string x) true
  | .ptr => fun x => .v (Value.pointer x) true
  | .sl => fun x => .v (Sl.toV x) true
  | .map => fun x => .v (Value.map x) true
  | .val => fun x => .v x true
  | .adr => fun a => .adr a
  | .fn => fun v => .fnv v
theorem Kd.cv_val : ∀ (k : Kd) (x : k.ty), (k.cv x).val = k.toV x := by intro k x; cases k <;> rfl
def Kd.of (c : CV) : (k : Kd) → Option k.ty
  | .int k => match c with
    | .v (.int k' x) _ => match decide (k' = k) with
      | true => some x
      | false => none
    | _ => none
  | .bool => match c with
    | .v (.bool b) _ => some b
    | .kb b => some b
    | _ => none
  | .str => match c with
    | .v (.string s) _ => some s
    | _ => none
  | .ptr => match c with
    | .v (.pointer p) _ => some p
    | .adr a => some (some a)
    | _ => none
  | .sl => match c with
    | .v (.slice a l c) _ => some (⟨a, l, c⟩ : Sl)
    | _ => none
  | .map => match c with
    | .v (.map m) _ => some m
    | _ => none
  | .val => match c with
    | .v x _ => some x
    | .kb b => some (Value.bool b)
    | .adr a => some (Value.pointer (some a))
    | .fnv v => some (FnV.toV v)
  | .fn => match c with
    | .fnv v => some v
    | .v (.func (.func f) b c) _ => some (.mk f b.toList c.toList)
    | .v .nilFunc _ => some .nil
    | _ => none
  | .adr => match c with
    | .adr a => some a
    | .v (.pointer (some a)) _ => some a
    | _ => none
theorem Kd.of_val {k : Kd} {c : CV} {x : k.ty} (h : Kd.of c k = some x) : c.val = k.toV x := by
  cases k <;> simp only [Kd.of] at h <;> (repeat' split at h) <;> first | (cases h; done) | (cases h; rfl) | (cases h; simp_all [CV.val, Kd.toV, Sl.toV, FnV.toV])
def Tup : List Kd → Type
  | [] => Unit
  | k :: r => match r with
    | [] => k.ty
    | _ :: _ => k.ty × Tup r
def Tup.cvs : (ks : List Kd) → Tup ks → List CV
  | [], _ => []
  | [k], x => [k.cv x]
  | k :: k2 :: r, x => k.cv x.1 :: Tup.cvs (k2 :: r) x.2
def Tup.vals : (ks : List Kd) → Tup ks → List Value
  | [], _ => []
  | [k], x => [k.toV x]
  | k :: k2 :: r, x => k.toV x.1 :: Tup.vals (k2 :: r) x.2
def Tup.of : (ks : List Kd) → List CV → Option (Tup ks)
  | [], [] => some ()
  | [k], [c] => Kd.of c k
  | k :: k2 :: r, c :: cs => match Kd.of c k, Tup.of (k2 :: r) cs with
    | some x, some y => some (x, y)
    | _, _ => none
  | _, _ => none
theorem Tup.cvs_vals : ∀ (ks : List Kd) (x : Tup ks), (Tup.cvs ks x).map CV.val = Tup.vals ks x := by
  intro ks
  induction ks with
  | nil => intro x; rfl
  | cons k r ih =>
    cases r with
    | nil => intro x; exact congrArg (· :: []) (Kd.cv_val k x)
    | cons k2 r => intro x; exact congr (congrArg List.cons (Kd.cv_val k x.1)) (ih x.2)
theorem Tup.of_vals : ∀ {ks : List Kd} {cs : List CV} {x : Tup ks}, Tup.of ks cs = some x → cs.map CV.val = Tup.vals ks x := by
  intro ks
  induction ks with
  | nil =>
    intro cs x h
    cases cs with
    | nil => rfl
    | cons c cs => cases h
  | cons k r ih =>
    intro cs x h
    cases r with
    | nil =>
      cases cs with
      | nil => cases h
      | cons c cs =>
        cases cs with
        | nil =>
          have h : Kd.of c k = some x := h
          exact congrArg (· :: []) (Kd.of_val h)
        | cons c' cs => cases h
    | cons k2 r =>
      cases cs with
      | nil => cases h
      | cons c cs =>
        have h : (match Kd.of c k, Tup.of (k2 :: r) cs with
          | some x, some y => some (x, y)
          | _, _ => none) = some x := h
        split at h
        · rename_i y z h1 h2
          cases h
          exact congr (congrArg List.cons (Kd.of_val h1)) (ih h2)
        · cases h
def amV : Value → Option Kd
  | .int k _ => some (.int k)
  | .bool _ => some .bool
  | .string _ => some .str
  | .pointer _ => some .ptr
  | .slice _ _ _ => some .sl
  | .map _ => some .map
  | .nilIface => some .val
  | .nilFunc => some .fn
  | _ => none
def aij : List Value → Option (List Kd)
  | [] => some []
  | v :: r => match amV v, aij r with
    | some k, some ks => some (k :: ks)
    | _, _ => none
abbrev Shp := Bool × List Kd
def TTab.shape (T : TTab) (t : Nat) : Option Shp :=
  match t with
  | 0 => some (false, [.adr])
  | t => match T.desc t, T.zero t with
    | some d, some z => match aij z with
      | some ks => some ((match d with | .struct _ | .array _ _ => true | _ => false), ks)
      | none => none
    | _, _ => none
def TV.of (sh : Shp) (x : TV) : Option (Tup sh.2) :=
  match sh.1, x with
  | true, .agg l => Tup.of sh.2 l
  | false, .sg c => Tup.of sh.2 [c]
  | _, _ => none
def one' (l : List CV) : TV := match l with
  | [c] => .sg c
  | l => .agg l
def TV.mk (sh : Shp) (x : Tup sh.2) : TV :=
  match sh.1 with
  | true => .agg (Tup.cvs sh.2 x)
  | false => one' (Tup.cvs sh.2 x)
def Shp.toV (sh : Shp) (x : Tup sh.2) : Value := (TV.mk sh x).val
theorem TV.of_val {sh : Shp} {x : TV} {y : Tup sh.2} (h : TV.of sh x = some y) : x.val = sh.toV y := by
  obtain ⟨b, ks⟩ := sh
  cases b with
  | true =>
    cases x with
    | sg c => cases h
    | agg l =>
      have h : Tup.of ks l = some y := h
      show Value.agg (l.map CV.val).toArray = Value.agg ((Tup.cvs ks y).map CV.val).toArray
      rw [Tup.of_vals h, Tup.cvs_vals]
  | false =>
    cases x with
    | agg l => cases h
    | sg c =>
      have h : Tup.of ks [c] = some y := h
      have := Tup.of_vals h
      rw [← Tup.cvs_vals] at this
      show c.val = (one' (Tup.cvs ks y)).val
      generalize Tup.cvs ks y = l at this
      cases l with
      | nil => cases this
      | cons c' l =>
        cases l with
        | nil => exact (List.cons.inj this).1
        | cons c2 l => exact absurd (congrArg List.length this) (by simp)
end Go.Lift

namespace Go.Lift
open Go
def aje (fl : Bool) (c : CV) (k : CV → Prop) : Prop :=
  match fl with
  | false => k c
  | true => match c with
    | .v (.int kd e) false => Let e fun x => k (.v (.int kd x) true)
    | .v (.bool e) false => Let e fun x => k (.v (.bool x) true)
    | .v (.string e) false => Let e fun x => k (.v (.string x) true)
    | .v (.slice a l c) false => Let (⟨a, l, c⟩ : Sl) fun x => k (.v (Sl.toV x) true)
    | c => k c
theorem wT {fl : Bool} {c : CV} {k : CV → Prop} (h : aje fl c k) : ∃ c', k c' ∧ c'.val = c.val := by
  unfold aje at h
  split at h
  · exact ⟨_, h, rfl⟩
  · split at h
    all_goals first | exact ⟨_, h _ rfl, rfl⟩ | exact ⟨_, h, rfl⟩
def ajP (fl : Bool) : List CV → (List CV → Prop) → Prop
  | [], k => k []
  | c :: r, k => aje fl c fun c => ajP fl r fun r => k (c :: r)
theorem zg {fl : Bool} : ∀ {l : List CV} {k : List CV → Prop}, ajP fl l k → ∃ l', k l' ∧ l'.map CV.val = l.map CV.val
  | [], k, h => ⟨_, h, rfl⟩
  | c :: r, k, h => by
    obtain ⟨c', h1, e1⟩ := wT h
    obtain ⟨r', h2, e2⟩ := zg h1
    exact ⟨_, h2, by simp [e1, e2]⟩
def vy (fl : Bool) (s : SV) (k : SV → Prop) : Prop :=
  match s with
  | .t (.sg c) => aje fl c fun c => k (.t (.sg c))
  | .t (.agg l) => ajP fl l fun l => k (.t (.agg l))
  | s => k s
theorem aeq {fl : Bool} {s : SV} {k : SV → Prop} (β : Nat → Nat) (h : vy fl s k) : ∃ s', k s' ∧ s'.val β = s.val β := by
  unfold vy at h
  split at h
  · obtain ⟨c', h1, e⟩ := wT h
    exact ⟨_, h1, e⟩
  · obtain ⟨l', h1, e⟩ := zg h
    exact ⟨_, h1, by simp [SV.val, TV.val, e]⟩
  · exact ⟨_, h, rfl⟩
def ahL : Operand → Bool
  | .const (.int _ _) => true
  | _ => false
def ak2 : Operand → Bool
  | .const (.int _ z) => !(decide (z = 0))
  | _ => false
def amQ (T : TTab) (b : BinOp) (t : Nat) (y : Operand) : Bool :=
  match T.desc t with
  | some (.int _) => match b with
    | .add | .sub | .mul | .lss | .leq | .gtr | .geq | .eql | .neq | .and | .or | .xor => true
    | .quo | .rem => ak2 y
    | .shl | .shr => ahL y
    | _ => false
  | some .bool => match b with
    | .eql | .neq => true
    | _ => false
  | some .string => match b with
    | .eql | .neq | .lss => true
    | _ => false
  | _ => false
def ac5 : Option Value → Option SV
  | some v => some (.t (.sg (.v v false)))
  | none => none
def aa4 (T : TTab) (E : Env) (op : Op) : Option SV :=
  match op with
  | .move x => E.ev x
  | .assign x => E.ev x
  | .pick c x y => match E.ev c with
    | some (.t (.sg (.kb true))) => E.ev x
    | some (.t (.sg (.kb false))) => E.ev y
    | _ => none
  | .binOp b t x y u => match amQ T b t y with
    | true => ac5 (kX T E.frm0 (.binOp b t x y u))
    | false => none
  | .unOp u t x => ac5 (kX T E.frm0 (.unOp u t x))
  | .convert s d x => match T.desc s, T.desc d with
    | some (.int _), some (.int k) => match E.ev x with
      | some (.t (.sg (.v (.int _ a) _))) => some (.t (.sg (.v (.int k (k.wrap a)) false)))
      | _ => none
    | some .string, some .string => match E.ev x with
      | some (.t (.sg (.v (.string a) b))) => some (.t (.sg (.v (.string a) b)))
      | _ => none
    | _, _ => none
  | .call ⟨.builtin .len, args, tys⟩ => match tys.toList with
    | [t] => match T.desc t with
      | some (.array m _) => match args.toList with
        | [x] => match E.ev x with
          | some (.t (.agg _)) => some (.t (.sg (.v (.int .i64 m) true)))
          | _ => none
        | _ => none
      | _ => ac5 (kX T E.frm0 (.call ⟨.builtin .len, args, tys⟩))
    | _ => none
  | .call ⟨.builtin .cap, args, tys⟩ => ac5 (kX T E.frm0 (.call ⟨.builtin .cap, args, tys⟩))
  | .call ⟨.builtin .max, args, tys⟩ => ac5 (kX T E.frm0 (.call ⟨.builtin .max, args, tys⟩))
  | .call ⟨.builtin .min, args, tys⟩ => ac5 (kX T E.frm0 (.call ⟨.builtin .min, args, tys⟩))
  | .fieldAddr t x f => match T.desc t, E.ev x with
    | some (.struct fs), some (.t (.sg (.adr a))) => match fs.toList[f]? with
      | some fl => match T.size fl.type with
        | some (_ + 1) => some (.t (.sg (.adr (a.add fl.offset))))
        | _ => none
      | none => none
    | some (.struct fs), some (.pv k off) => match fs.toList[f]? with
      | some fl => match T.size fl.type with
        | some (_ + 1) => some (.pv k (off + fl.offset))
        | _ => none
      | none => none
    | _, _ => none
  | .extract x i => match E.ev x with
    | some (.tup l) => match l[i]? with
      | some x => some (.t x)
      | none => none
    | _ => none
  | _ => none
def Quiet2 (P : Program) (n : Nat) (β : Nat → Nat) (st : St) (o : Oper) (v : Value) : Prop :=
  ∀ a w, Holds n β st.E a → Rel (hpOf β st.m st.pv) w.heap → (execOp a.eval o).run P w = .ok (.value v) w
section
variable {P : Program} {T : TTab} {n : Nat} {β : Nat → Nat} {st : St} {o : Oper}
theorem Quiet2.of {v : Value} (h : Quiet1 P n (st.E.frm β) (hpOf β st.m st.pv) o v) : Quiet2 P n β st o v :=
  fun a w ha hw => h a w ha.frm hw
theorem Quiet2.of0 {v : Value} (h : Quiet1 P n st.E.frm0 (hpOf β st.m st.pv) o v) : Quiet2 P n β st o v :=
  fun a w ha hw => h a w ha.frm0 hw
theorem ae4 {x : Option Value} {s : SV} (h : ac5 x = some s) : ∃ v, x = some v ∧ s = .t (.sg (.v v false)) := by
  cases x with
  | none => cases h
  | some v => cases h; exact ⟨v, rfl, rfl⟩
theorem Quiet2.wrap {s : SV} (hT : TTab.Ok P T) (h : ac5 (kX T st.E.frm0 o.op) = some s) : Quiet2 P n β st o (s.val β) := by
  obtain ⟨v, h1, rfl⟩ := ae4 h
  exact Quiet2.of0 (Quiet1.pure hT h1)
theorem aiA (β : Nat → Nat) (k off d : Nat) : (⟨β k, off, none⟩ : Addr).add d = ⟨β k, off + d, none⟩ := by
  unfold Addr.add
  split
  · rename_i h; subst h; rfl
  · rfl
theorem adG {s : SV} (hT : TTab.Ok P T) (h : aa4 T st.E o.op = some s) : Quiet2 P n β st o (s.val β) := by
  unfold aa4 at h
  split at h <;> rename_i hop
  · intro a w ha hw; simp [execOp, hop, ha.eval h]
  · intro a w ha hw; simp [execOp, hop, ha.eval h]
  · split at h
    · rename_i hc; intro a w ha hw; simp [execOp, hop, ha.eval hc, ha.eval h, SV.val, TV.val, CV.val, asBool]
    · rename_i hc; intro a w ha hw; simp [execOp, hop, ha.eval hc, ha.eval h, SV.val, TV.val, CV.val, asBool]
    · cases h
  · split at h
    · rw [← hop] at h; exact Quiet2.wrap hT h
    · cases h
  · rw [← hop] at h; exact Quiet2.wrap hT h
  · split at h
    · rename_i h1 h2
      split at h
      · rename_i hx
        cases h
        intro a w ha hw
        simp [execOp, hop, ha.eval hx, SV.val, TV.val, CV.val, convert, Conv.intToInt, Result.andThen, TTab.desc_run hT h1, TTab.desc_run hT h2]
      · cases h
    · rename_i h1 h2
      split at h
      · rename_i hx
        cases h
        intro a w ha hw
        simp [execOp, hop, ha.eval hx, SV.val, TV.val, CV.val, convert, Result.andThen, TTab.desc_run hT h1, TTab.desc_run hT h2]
      · cases h
    · cases h
  · rename_i args tys _
    split at h
    · rename_i t htys
      split at h
      · rename_i m e h1
        split at h
        · rename_i x hargs
          split at h
          · rename_i l hx
            cases h
            intro a w ha hw
            have e1 := congrArg List.toArray hargs
            have e2 := congrArg List.toArray htys
            simp only [Array.toArray_toList] at e1 e2
            subst e1 e2
            simp [execOp, hop, ha.eval hx, SV.val, TV.val, CV.val, resolve, invoke, builtin, Builtin.len_, goInt, Result.andThen, TTab.desc_run hT h1]
          · cases h
        · cases h
      · rw [← hop] at h; exact Quiet2.wrap hT h
    · cases h
  · rw [← hop] at h; exact Quiet2.wrap hT h
  · rw [← hop] at h; exact Quiet2.wrap hT h
  · rw [← hop] at h; exact Quiet2.wrap hT h
  · split at h
    · rename_i fs a' h1 hx
      split at h
      · rename_i fl hf
        simp only [Array.getElem?_toList] at hf
        split at h
        · rename_i s' hsz
          cases h
          intro a w ha hw
          simp [execOp, hop, ha.eval hx, SV.val, TV.val, CV.val, Instr.fieldAt, Instr.sureAddr, fieldPlace, Result.andThen, TTab.desc_run hT h1, hf, TTab.size_run hT hsz]
        · cases h
      · cases h
    · rename_i fs k off h1 hx
      split at h
      · rename_i fl hf
        simp only [Array.getElem?_toList] at hf
        split at h
        · rename_i s' hsz
          cases h
          intro a w ha hw
          simp [execOp, hop, ha.eval hx, SV.val, Instr.fieldAt, Instr.sureAddr, fieldPlace, Result.andThen, TTab.desc_run hT h1, hf, TTab.size_run hT hsz, aiA]
        · cases h
      · cases h
    · cases h
  · split at h
    · rename_i l hx
      split at h
      · rename_i x hl
        cases h
        intro a w ha hw
        simp [execOp, hop, ha.eval hx, SV.val, Instr.extract, hl]
      · cases h
    · cases h
  · cases h
end
end Go.Lift

namespace Go.Lift
open Go
def ox : List (Nat × List CV) → Nat → Option (List CV)
  | [], _ => none
  | (i, c) :: r, k => match Nat.beq i k with
    | true => some c
    | false => ox r k
theorem pT : ∀ {pv : List (Nat × List CV)} {k : Nat} {c : List CV}, ox pv k = some c → (k, c) ∈ pv
  | (i, c') :: r, k, c, h => by
    simp only [ox] at h
    split at h
    · rename_i hb
      have := Nat.eq_of_beq_eq_true hb
      subst this
      cases h
      exact List.mem_cons_self ..
    · exact List.mem_cons_of_mem _ (pT h)
theorem wx {pv : List (Nat × List CV)} {k : Nat} {c : List CV} (β : Nat → Nat) (m : Heap) (h : ox pv k = some c) : ∃ i : Nat, (hpOf β m pv).pv[i]? = some (β k, c.map CV.val) := by
  obtain ⟨i, hi, e⟩ := List.mem_iff_getElem.1 (pT h)
  exact ⟨i, by simp [hpOf, hi, e]⟩
def TTab.shp (T : TTab) (t : Nat) : Option Shp :=
  match T.desc t, T.zero t with
  | some d, some z => match aij z with
    | some ks => match d with
      | .struct _ => some (true, ks)
      | .array _ _ => some (true, ks)
      | _ => some (false, ks)
    | none => none
  | _, _ => none
theorem TTab.shp_agg {T : TTab} {t : Nat} {ks : List Kd} (h : T.shp t = some (true, ks)) : oL T t = true := by
  unfold TTab.shp at h
  unfold oL
  split at h
  · rename_i d z hd hz
    rw [hd]
    split at h
    · split at h <;> first | rfl | cases h
    · cases h
  · cases h
theorem TTab.shp_non {T : TTab} {t : Nat} {ks : List Kd} (h : T.shp t = some (false, ks)) : lN T t = true := by
  unfold TTab.shp at h
  unfold lN
  split at h
  · rename_i d z hd hz
    rw [hd]
    split at h
    · split at h
      · cases h
      · cases h
      · rename_i h1 h2
        split <;> simp_all
    · cases h
  · cases h
def intE (E : Env) (x : Operand) : Option (IntKind × Int) :=
  match E.ev x with
  | some (.t (.sg (.v (.int k j) _))) => some (k, j)
  | _ => none
def slE (E : Env) (x : Operand) : Option Sl :=
  match E.ev x with
  | some (.t (.sg (.v (.slice a l c) _))) => some ⟨a, l, c⟩
  | _ => none
def strE (E : Env) (x : Operand) : Option ByteArray :=
  match E.ev x with
  | some (.t (.sg (.v (.string s) _))) => some s
  | _ => none
def adrE (E : Env) (x : Operand) : Option Addr :=
  match E.ev x with
  | some (.t (.sg (.adr a))) => some a
  | _ => none
def aggE (E : Env) (x : Operand) : Option (List CV) :=
  match E.ev x with
  | some (.t (.agg l)) => some l
  | _ => none
def smE (E : Env) (x : Operand) : Bool :=
  match E.ev x with
  | some (.t (.sg (.v _ b))) => b
  | _ => false
section
variable {E : Env} {x : Operand} (β : Nat → Nat)
theorem gN {k : IntKind} {j : Int} (h : intE E x = some (k, j)) : (E.frm β).ev x = some (.int k j) := by
  unfold intE at h
  split at h
  · rename_i hx; cases h; exact Env.ev_frm β hx
  · cases h
theorem uN {s : Sl} (h : slE E x = some s) : (E.frm β).ev x = some (.slice s.a s.len s.cap) := by
  unfold slE at h
  split at h
  · rename_i hx; cases h; exact Env.ev_frm β hx
  · cases h
theorem abY {s : ByteArray} (h : strE E x = some s) : (E.frm β).ev x = some (.string s) := by
  unfold strE at h
  split at h
  · rename_i hx; cases h; exact Env.ev_frm β hx
  · cases h
theorem alm {a : Addr} (h : adrE E x = some a) : (E.frm β).ev x = some (.pointer (some a)) := by
  unfold adrE at h
  split at h
  · rename_i hx; cases h; exact Env.ev_frm β hx
  · cases h
theorem aem {l : List CV} (h : aggE E x = some l) : (E.frm β).ev x = some (.agg (l.map CV.val).toArray) := by
  unfold aggE at h
  split at h
  · rename_i hx; cases h; exact Env.ev_frm β hx
  · cases h
end
def optI (E : Env) : Option Operand → Option (Option Int)
  | none => some none
  | some x => match intE E x with
    | some (.i64, j) => some (some j)
    | _ => none
theorem yr {E : Env} {x : Option Operand} {j : Option Int} (β : Nat → Nat) (h : optI E x = some j) : x.map (E.frm β).ev = j.map (fun j => some (.int .i64 j)) := by
  cases x with
  | none => cases h; rfl
  | some x =>
    simp only [optI] at h
    split at h
    · rename_i hx; cases h; simp [gN β hx]
    · cases h
def oneC : CV → Bool
  | .v x _ => one x
  | _ => true
theorem qu {c : CV} (h : oneC c = true) : one c.val = true := by cases c <;> first | exact h | exact FnV.one_toV _ | rfl
def abx (T : TTab) (t : Nat) (x : Operand) (st : St) (k : SV → Prop) : Prop :=
  match T.shp t, T.size t, st.E.ev x with
  | some (true, _), some sz, some (.pv kk off) => match ox st.pv kk with
    | some cs => match Nat.beq ((cs.drop off).take sz).length sz with
      | true => k (.t (.agg ((cs.drop off).take sz)))
      | false => False
    | none => False
  | some (false, _), some _, some (.pv kk off) => match ox st.pv kk with
    | some cs => match cs[off]? with
      | some c => k (.t (.sg c))
      | none => False
    | none => False
  | some (true, ks), some sz, some (.t (.sg (.adr a))) => Lift.cg (Tup.vals ks) sz a st.m fun x => k (.t (.agg (Tup.cvs ks x)))
  | some (false, [kd]), some _, some (.t (.sg (.adr a))) => Lift.load kd.toV a st.m fun x => k (.t (.sg (kd.cv x)))
  | _, _, _ => False
def qNil (x : Operand) (st : St) (k : SV → Prop) : Prop :=
  match st.E.ev x with
  | some (.pv kk off) => k (.pv kk off)
  | some (.t (.sg (.adr a))) => k (.t (.sg (.adr a)))
  | some (.t (.sg (.v (.pointer p) _))) => Lift.ah p fun a => k (.t (.sg (.adr a)))
  | _ => False
def ae2 (T : TTab) (t : Nat) (x i : Operand) (st : St) (k : SV → Prop) : Prop :=
  match T.desc t, intE st.E i with
  | some (.slice e), some (_, j) => match T.size e, slE st.E x with
    | some sz, some s => Lift.idxS s j sz fun a => k (.t (.sg (.adr a)))
    | _, _ => False
  | some (.array len e), some (_, j) => match T.size e, st.E.ev x with
    | some sz, some (.t (.sg (.adr a))) => ((0 : Int) ≤ j ∧ j < len) ∧ k (.t (.sg (.adr (a.add (Int.toNat j * sz)))))
    | some sz, some (.pv kk off) => match ahL i with
      | true => match decide (0 ≤ j ∧ j < len) with
        | true => k (.pv kk (off + Int.toNat j * sz))
        | false => False
      | false => False
    | _, _ => False
  | _, _ => False
def xP (T : TTab) (t : Nat) (x i : Operand) (st : St) (k : SV → Prop) : Prop :=
  match T.desc t, intE st.E i with
  | some .string, some (_, j) => match strE st.E x with
    | some s => Lift.am8 s j fun x => k (.t (.sg (.v (.int .u8 x) true)))
    | none => False
  | some (.array len e), some (_, j) => match T.size e, T.shp e, aggE st.E x with
    | some sz, some (false, [kd]), some l => Lift.idxV kd.toV (l.map CV.val) len j sz fun x => k (.t (.sg (kd.cv x)))
    | _, _, _ => False
  | _, _ => False
def yF (T : TTab) (t : Nat) (x : Operand) (lo hi mx : Option Operand) (st : St) (k : SV → Prop) : Prop :=
  match T.desc t with
  | some (.slice e) => match T.size e, slE st.E x, optI st.E lo, optI st.E hi, optI st.E mx with
    | some sz, some s, some lo', some hi', some mx' => match hi, mx with
      | none, some _ => False
      | _, _ => Lift.ki s lo' hi' mx' sz fun x => k (.t (.sg (.v (Sl.toV x) true)))
    | _, _, _, _, _ => False
  | some .string => match mx, strE st.E x, optI st.E lo, optI st.E hi with
    | none, some s, some lo', some hi' => Lift.amA s lo' hi' fun x => k (.t (.sg (.v (.string x) true)))
    | _, _, _, _ => False
  | some (.array len e) => match T.size e, adrE st.E x, lo, hi, mx with
    | some _, some a, none, none, none => k (.t (.sg (.v (.slice (some a) len len) false)))
    | _, _, _, _, _ => False
  | _ => False
def afq (E : Env) (place : Nat → Option (Nat × Nat)) (cells : List CV) : List (Nat × Operand) → Option (List CV)
  | [] => some cells
  | (i, x) :: r => match place i, E.ev x with
    | some (off, size), some (.t (.sg c)) => match oneC c && Nat.beq size 1 && Nat.blt off cells.length with
      | true => afq E place (cells.take off ++ [c] ++ cells.drop (off + 1)) r
      | false => none
    | some (off, size), some (.t (.agg l)) => match Nat.beq size l.length && Nat.ble (off + l.length) cells.length with
      | true => afq E place (cells.take off ++ l ++ cells.drop (off + l.length)) r
      | false => none
    | _, _ => none
theorem afQ (l : List Value) : ∀ (cs : List Value) (off j0 : Nat), off + j0 + l.length ≤ cs.length →
    (l.zipIdx j0).foldl (fun (cs : Array Value) (p : Value × Nat) => cs.setIfInBounds (off + p.2) p.1) cs.toArray = (cs.take (off + j0) ++ l ++ cs.drop (off + j0 + l.length)).toArray := by
  induction l with
  | nil => intro cs off j0 h; simp
  | cons v l ih =>
    intro cs off j0 h
    simp only [List.length_cons] at h
    simp only [List.zipIdx_cons, List.foldl_cons]
    have e1 : cs.toArray.setIfInBounds (off + j0) v = (cs.set (off + j0) v).toArray := by simp
    rw [e1, ih (cs.set (off + j0) v) off (j0 + 1) (by simp; omega)]
    congr 1
    apply List.ext_getElem?
    intro i
    have hl1 : (List.take (off + (j0 + 1)) (cs.set (off + j0) v)).length = off + j0 + 1 := by simp; omega
    have hl2 : (List.take (off + j0) cs).length = off + j0 := by simp; omega
    rw [List.append_assoc, List.append_assoc]
    rcases Nat.lt_or_ge i (off + j0) with hi | hi
    · rw [List.getElem?_append_left (by omega), List.getElem?_append_left (by omega), List.getElem?_take, if_pos (by omega), List.getElem?_take, if_pos hi, List.getElem?_set_ne (by omega)]
    · rw [List.getElem?_append_right (by omega) (l₁ := List.take (off + j0) cs), hl2]
      rcases Nat.eq_or_lt_of_le hi with he | hlt
      · rw [List.getElem?_append_left (by omega), List.getElem?_take, if_pos (by omega), ← he, List.getElem?_set_self (by omega)]
        simp
      · rw [List.getElem?_append_right (by omega), hl1]
        obtain ⟨d, rfl⟩ : ∃ d, i = off + j0 + 1 + d := ⟨i - (off + j0 + 1), by omega⟩
        rw [show off + j0 + 1 + d - (off + j0 + 1) = d by omega, show off + j0 + 1 + d - (off + j0) = d + 1 by omega, List.cons_append, List.getElem?_cons_succ]
        rcases Nat.lt_or_ge d l.length with h3 | h3
        · rw [List.getElem?_append_left h3, List.getElem?_append_left h3]
        · rw [List.getElem?_append_right h3, List.getElem?_append_right h3, List.getElem?_drop, List.getElem?_drop, List.getElem?_set_ne (by omega)]
          congr 1
          simp only [List.length_cons]
          omega
theorem kZ {E : Env} (β : Nat → Nat) {place : Nat → Option (Nat × Nat)} : ∀ {parts : List (Nat × Operand)} {cells out : List CV}, afq E place cells parts = some out →
    ∃ pv, kl (E.frm β) parts = some pv ∧ Instr.fill place (cells.map CV.val).toArray pv = some (out.map CV.val).toArray
  | [], cells, out, h => by cases h; exact ⟨[], rfl, rfl⟩
  | (i, x) :: r, cells, out, h => by
    simp only [afq] at h
    split at h
    · rename_i off size c hp hx
      split at h
      · rename_i hb
        simp only [Bool.and_eq_true, Nat.blt_eq] at hb
        obtain ⟨⟨h1, h2⟩, h3⟩ := hb
        have h2 := Nat.eq_of_beq_eq_true h2
        subst h2
        obtain ⟨pv, e1, e2⟩ := kZ β h
        have hv : (c.val).cells = #[c.val] := by
          have := qu h1
          cases hc : c.val <;> first | rfl | (rw [hc] at this; simp [one] at this)
        refine ⟨(i, c.val) :: pv, by simp [kl, Env.ev_frm β hx, SV.val, TV.val, e1], ?_⟩
        have hf := afQ [c.val] (cells.map CV.val) off 0 (by simp; omega)
        simp only [Nat.add_zero, List.length_singleton] at hf
        simp only [Instr.fill, hp, hv, List.size_toArray, List.length_cons, List.length_nil]
        rw [if_neg (by simp; omega)]
        rw [← e2]
        have hz : #[c.val].zipIdx = ([c.val].zipIdx 0).toArray := by simp
        rw [hz, List.foldl_toArray, hf]
        simp
      · cases h
    · rename_i off size l hp hx
      split at h
      · rename_i hb
        simp only [Bool.and_eq_true] at hb
        obtain ⟨h1, h2⟩ := hb
        have h1 := Nat.eq_of_beq_eq_true h1
        have h2 := Nat.le_of_ble_eq_true h2
        subst h1
        obtain ⟨pv, e1, e2⟩ := kZ β h
        refine ⟨(i, .agg (l.map CV.val).toArray) :: pv, by simp [kl, Env.ev_frm β hx, SV.val, TV.val, e1], ?_⟩
        have hf := afQ (l.map CV.val) (cells.map CV.val) off 0 (by simp; omega)
        simp only [Nat.add_zero, List.length_map] at hf
        simp only [Instr.fill, hp, Value.cells, List.size_toArray, List.length_map]
        rw [if_neg (by simp; omega)]
        rw [← e2]
        have hz : ((l.map CV.val).toArray).zipIdx = ((l.map CV.val).zipIdx 0).toArray := by simp
        rw [hz, List.foldl_toArray, hf]
        simp [List.map_take, List.map_drop]
      · cases h
    · cases h
def ym (T : TTab) (t : Nat) (parts : List (Nat × Operand)) (st : St) (k : SV → Prop) : Prop :=
  match T.desc t, T.zero t with
  | some (.struct fs), some z => match qg T fs.toList with
    | some ps => match afq st.E (fun (i : Nat) => ps[i]?) (z.map ku) parts with
      | some l => k (.t (.agg l))
      | none => False
    | none => False
  | some (.array _ e), some z => match T.size e with
    | some sz => match afq st.E (fun i => some (i * sz, sz)) (z.map ku) parts with
      | some l => k (.t (.agg l))
      | none => False
    | none => False
  | _, _ => False
def yD (T : TTab) (t : Nat) (x : Operand) (f : Nat) (st : St) (k : SV → Prop) : Prop :=
  match T.desc t, aggE st.E x with
  | some (.struct fs), some l => match fs.toList[f]? with
    | some fl => match T.shp fl.type, T.size fl.type with
      | some (true, _), some sz => k (.t (.agg ((l.drop fl.offset).take sz)))
      | some (false, _), some _ => match l[fl.offset]? with
        | some c => k (.t (.sg c))
        | none => False
      | _, _ => False
    | none => False
  | _, _ => False
def qBin (T : TTab) (fl : Bool) (b : BinOp) (t : Nat) (x y : Operand) (st : St) (k : SV → Prop) : Prop :=
  match T.desc t with
  | some (.int _) => match b, intE st.E x, intE st.E y with
    | .quo, some (kd, a), some (kd', c) => match decide (kd' = kd) with
      | true => (c ≠ 0) ∧ vy fl (.t (.sg (.v (.int kd (kd.wrap (Int.tdiv a c))) false))) k
      | false => False
    | .rem, some (kd, a), some (kd', c) => match decide (kd' = kd) with
      | true => (c ≠ 0) ∧ vy fl (.t (.sg (.v (.int kd (Int.tmod a c)) false))) k
      | false => False
    | .shl, some (kd, a), some (_, c) => (0 ≤ c) ∧ vy fl (.t (.sg (.v (.int kd (kd.wrap (a * 2 ^ (min (Int.toNat c) kd.bits)))) false))) k
    | .shr, some (kd, a), some (_, c) => (0 ≤ c) ∧ vy fl (.t (.sg (.v (.int kd (Int.fdiv a (2 ^ (min (Int.toNat c) kd.bits)))) false))) k
    | _, _, _ => False
  | some (.slice _) => match b, slE st.E x, y with
    | .eql, some s, .const (.slice none _ _) => k (.t (.sg (.v (.bool s.a.isNone) (smE st.E x))))
    | .neq, some s, .const (.slice none _ _) => k (.t (.sg (.v (.bool (!s.a.isNone)) false)))
    | _, _, _ => False
  | some .string => match b, strE st.E x, strE st.E y with
    | .add, some a, some c => (((a.size + c.size : Nat) : Int) ≤ 9223372036854775807) ∧ vy fl (.t (.sg (.v (.string (a ++ c)) false))) k
    | _, _, _ => False
  | _ => False
def agz (T : TTab) (s d : Nat) (x : Operand) (st : St) (k : SV → Prop) : Prop :=
  match T.desc s, T.desc d, slE st.E x with
  | some (.slice e), some .string, some sl => match T.desc e with
    | some (.int .u8) => Lift.yM sl st.m fun x => k (.t (.sg (.v (.string x) true)))
    | _ => False
  | _, _, _ => False
def ahw (E : Env) : List Operand → Option (List Value)
  | [] => some []
  | x :: r => match E.ev x, ahw E r with
    | some (.t v), some l => some (v.val :: l)
    | _, _ => none
theorem abn {E : Env} (β : Nat → Nat) : ∀ {l : List Operand} {vs : List Value}, ahw E l = some vs → jt (E.frm β) l = some vs
  | [], vs, h => by cases h; rfl
  | x :: r, vs, h => by
    simp only [ahw] at h
    split at h
    · rename_i v l h1 h2
      cases h
      simp [jt, Env.ev_frm β h1, abn β h2, SV.val]
    · cases h
def aeX (fn : Fn) (fs cs : List Operand) (st : St) (k : SV → Prop) : Prop :=
  match ahw st.E fs, ahw st.E cs with
  | some bs, some cs => k (.t (.sg (.v (.func fn bs.toArray cs.toArray) true)))
  | _, _ => False
def shQ (T : TTab) (fl : Bool) (o : Oper) (st : St) (k : SV → Prop) : Prop :=
  match aa4 T st.E o.op with
  | some s => vy fl s k
  | none => match o.op with
    | .load t x => abx T t x st k
    | .nilCheck x => qNil x st k
    | .indexAddr t x i => ae2 T t x i st k
    | .index t x i => xP T t x i st k
    | .slice t x lo hi mx => yF T t x lo hi mx st k
    | .build t parts => ym T t parts.toList st k
    | .field t x f => yD T t x f st k
    | .binOp b t x y _ => qBin T fl b t x y st k
    | .convert s d x => agz T s d x st k
    | .makeFunc fn fs cs => aeX fn fs.toList cs.toList st k
    | _ => False
end Go.Lift

namespace Go.Lift
open Go
section
variable {P : Program} {T : TTab} {n : Nat} (β : Nat → Nat) {st : St} {o : Oper} {k : SV → Prop}
abbrev Comes (P : Program) (n : Nat) (β : Nat → Nat) (st : St) (o : Oper) (k : SV → Prop) : Prop := ∃ s : SV, k s ∧ Quiet2 P n β st o (s.val β)
theorem Tup.vals_cvs (ks : List Kd) (x : Tup ks) : Tup.vals ks x = (Tup.cvs ks x).map CV.val := (Tup.cvs_vals ks x).symm
theorem aeJ {t : Nat} {x : Operand} (hT : TTab.Ok P T) (hop : o.op = .load t x) (h : abx T t x st k) : Comes P n β st o k := by
  unfold abx at h
  split at h
  · rename_i ks sz kk off h1 h2 hx
    split at h
    · rename_i cs hc
      split at h
      · rename_i hb
        have hb := Nat.eq_of_beq_eq_true hb
        obtain ⟨i, hi⟩ := wx β st.m hc
        refine ⟨_, h, Quiet2.of ?_⟩
        refine Quiet1.loadSP (i := i) hT hop (TTab.shp_agg h1) h2 (Env.ev_frm β hx) hi rfl ?_ (by simpa using hb)
        simp only [List.map_take, List.map_drop]
      · exact h.elim
    · exact h.elim
  · rename_i ks sz kk off h1 h2 hx
    split at h
    · rename_i cs hc
      split at h
      · rename_i c hoff
        obtain ⟨i, hi⟩ := wx β st.m hc
        refine ⟨_, h, Quiet2.of ?_⟩
        exact Quiet1.loadP (i := i) hT hop (TTab.shp_non h1) (Env.ev_frm β hx) hi rfl (by simp [hoff, SV.val, TV.val])
      · exact h.elim
    · exact h.elim
  · rename_i ks sz a h1 h2 hx
    obtain ⟨v, hc, hk⟩ := h
    refine ⟨_, hk, Quiet2.of ?_⟩
    rw [Tup.vals_cvs] at hc
    exact Quiet1.loadS hT hop (TTab.shp_agg h1) h2 (Env.ev_frm β hx) hc
  · rename_i kd sz a h1 h2 hx
    obtain ⟨v, hc, hk⟩ := h
    refine ⟨_, hk, Quiet2.of ?_⟩
    rw [← Kd.cv_val] at hc
    exact Quiet1.load hT hop (TTab.shp_non h1) (Env.ev_frm β hx) hc
  · exact h.elim
theorem ag4 {x : Operand} (hop : o.op = .nilCheck x) (h : qNil x st k) : Comes P n β st o k := by
  unfold qNil at h
  split at h
  · rename_i hx; exact ⟨_, h, Quiet2.of (Quiet1.nilChk hop (Env.ev_frm β hx) rfl)⟩
  · rename_i hx; exact ⟨_, h, Quiet2.of (Quiet1.nilChk hop (Env.ev_frm β hx) rfl)⟩
  · rename_i hx
    obtain ⟨a, hp, hk⟩ := h
    exact ⟨_, hk, Quiet2.of (Quiet1.nilChk hop (Env.ev_frm β hx) hp)⟩
  · exact h.elim
theorem aeu {t : Nat} {x i : Operand} (hT : TTab.Ok P T) (hop : o.op = .indexAddr t x i) (h : ae2 T t x i st k) : Comes P n β st o k := by
  unfold ae2 at h
  split at h
  · rename_i e kd j h1 hi
    split at h
    · rename_i sz s h2 hx
      obtain ⟨a, ha, hb, hk⟩ := h
      exact ⟨_, hk, Quiet2.of (Quiet1.idxS hT hop h1 h2 (uN β hx) (gN β hi) ha hb)⟩
    · exact h.elim
  · rename_i len e kd j h1 hi
    split at h
    · rename_i sz a h2 hx
      exact ⟨_, h.2, Quiet2.of (Quiet1.idxA hT hop h1 h2 (Env.ev_frm β hx) (gN β hi) h.1)⟩
    · rename_i sz kk off h2 hx
      split at h
      · split at h
        · rename_i hd
          have hd := of_decide_eq_true hd
          refine ⟨_, h, Quiet2.of ?_⟩
          have := Quiet1.idxA (n := n) (h := hpOf β st.m st.pv) hT hop h1 h2 (Env.ev_frm β hx) (gN β hi) hd
          rwa [aiA] at this
        · exact h.elim
      · exact h.elim
    · exact h.elim
  · exact h.elim
theorem adJ {t : Nat} {x i : Operand} (hT : TTab.Ok P T) (hop : o.op = .index t x i) (h : xP T t x i st k) : Comes P n β st o k := by
  unfold xP at h
  split at h
  · rename_i kd j h1 hi
    split at h
    · rename_i s hx
      obtain ⟨h0, b, hb, hk⟩ := h
      exact ⟨_, hk, Quiet2.of (Quiet1.idxStr hT hop h1 (abY β hx) (gN β hi) h0 hb)⟩
    · exact h.elim
  · rename_i len e kd j h1 hi
    split at h
    · rename_i sz kd l h2 h3 hx
      obtain ⟨h0, v, hv, hk⟩ := h
      rw [← Kd.cv_val] at hv
      exact ⟨_, hk, Quiet2.of (Quiet1.idxV hT hop h1 h2 (TTab.shp_non h3) (aem β hx) (gN β hi) h0 hv)⟩
    · exact h.elim
  · exact h.elim
theorem acR {t : Nat} {x : Operand} {lo hi mx : Option Operand} (hT : TTab.Ok P T) (hop : o.op = .slice t x lo hi mx) (h : yF T t x lo hi mx st k) : Comes P n β st o k := by
  unfold yF at h
  split at h
  · rename_i e h1
    split at h
    · rename_i sz s lo' hi' mx' h2 hx hlo hhi hmx
      have key : (hi = none → mx = none) → Lift.ki s lo' hi' mx' sz (fun x => k (.t (.sg (.v (Sl.toV x) true)))) → Comes P n β st o k := by
        intro hm h
        obtain ⟨r, hq, hk⟩ := Quiet1.sliceOf (n := n) (h := hpOf β st.m st.pv) hT hop h1 h2 (uN β hx) (yr β hlo) (yr β hhi) (yr β hmx) hm h
        exact ⟨_, hk, Quiet2.of hq⟩
      split at h
      · exact h.elim
      · rename_i hne
        refine key (fun e => ?_) h
        subst e
        cases mx with
        | none => rfl
        | some y => exact absurd rfl (hne y rfl)
    · exact h.elim
  · rename_i h1
    split at h
    · rename_i s lo' hi' hx hlo hhi
      obtain ⟨r, hq, hk⟩ := Quiet1.sliceStr (n := n) (h := hpOf β st.m st.pv) hT hop h1 (abY β hx) (yr β hlo) (yr β hhi) h
      exact ⟨_, hk, Quiet2.of hq⟩
    · exact h.elim
  · rename_i len e h1
    split at h
    · rename_i sz a h2 hx
      exact ⟨_, h, Quiet2.of (Quiet1.sliceArr hT hop h1 h2 (alm β hx))⟩
    · exact h.elim
  · exact h.elim
theorem qC (z : List Value) : (z.map ku).map CV.val = z := by
  have : (CV.val ∘ ku) = id := funext tU
  simp [this]
theorem acQ {t : Nat} {parts : Array (Nat × Operand)} (hT : TTab.Ok P T) (hop : o.op = .build t parts) (h : ym T t parts.toList st k) : Comes P n β st o k := by
  unfold ym at h
  split at h
  · rename_i fs z h1 hz
    split at h
    · rename_i ps hps
      split at h
      · rename_i l hl
        obtain ⟨pv, e1, e2⟩ := kZ β hl
        rw [qC] at e2
        exact ⟨_, h, Quiet2.of (Quiet1.build hT hop h1 hps hz e1 e2)⟩
      · exact h.elim
    · exact h.elim
  · rename_i len e z h1 hz
    split at h
    · rename_i sz h2
      split at h
      · rename_i l hl
        obtain ⟨pv, e1, e2⟩ := kZ β hl
        rw [qC] at e2
        exact ⟨_, h, Quiet2.of (Quiet1.buildA hT hop h1 h2 hz e1 e2)⟩
      · exact h.elim
    · exact h.elim
  · exact h.elim
theorem acN {t f : Nat} {x : Operand} (hT : TTab.Ok P T) (hop : o.op = .field t x f) (h : yD T t x f st k) : Comes P n β st o k := by
  unfold yD at h
  split at h
  · rename_i fs l h1 hx
    split at h
    · rename_i fl hf
      split at h
      · rename_i sz ks h2 h3
        refine ⟨_, h, Quiet2.of ?_⟩
        exact Quiet1.fieldS hT hop h1 hf (TTab.shp_agg h2) h3 (aem β hx) (by simp only [List.map_take, List.map_drop])
      · rename_i sz ks h2 h3
        split at h
        · rename_i c hc
          refine ⟨_, h, Quiet2.of ?_⟩
          exact Quiet1.field hT hop h1 hf rfl (TTab.shp_non h2) (aem β hx) (by simp [hc, SV.val, TV.val])
        · exact h.elim
      · exact h.elim
    · exact h.elim
  · exact h.elim
theorem Comes.bind {fl : Bool} {s : SV} (h : vy fl s k) (hq : Quiet2 P n β st o (s.val β)) : Comes P n β st o k := by
  obtain ⟨s', h1, e⟩ := aeq β h
  exact ⟨s', h1, by rw [e]; exact hq⟩
theorem agp {fl : Bool} {b : BinOp} {t u : Nat} {x y : Operand} (hT : TTab.Ok P T) (hop : o.op = .binOp b t x y u) (h : qBin T fl b t x y st k) : Comes P n β st o k := by
  unfold qBin at h
  split at h
  · split at h
    · rename_i kd a kd' c hx hy
      split at h
      · rename_i hd
        have hd := of_decide_eq_true hd
        subst hd
        exact Comes.bind β h.2 (Quiet2.of (Quiet1.quo hop (gN β hx) (gN β hy) h.1))
      · exact h.elim
    · rename_i kd a kd' c hx hy
      split at h
      · rename_i hd
        have hd := of_decide_eq_true hd
        subst hd
        exact Comes.bind β h.2 (Quiet2.of (Quiet1.rem hop (gN β hx) (gN β hy) h.1))
      · exact h.elim
    · rename_i kd a kd' c hx hy
      exact Comes.bind β h.2 (Quiet2.of (Quiet1.shl hop (gN β hx) (gN β hy) h.1))
    · rename_i kd a kd' c hx hy
      exact Comes.bind β h.2 (Quiet2.of (Quiet1.shr hop (gN β hx) (gN β hy) h.1))
    · exact h.elim
  · rename_i e h1
    split at h
    · rename_i s i j hx
      exact ⟨_, h, Quiet2.of (Quiet1.eqNilS hT hop h1 (uN β hx) rfl)⟩
    · rename_i s i j hx
      exact ⟨_, h, Quiet2.of (Quiet1.neNilS hT hop h1 (uN β hx) rfl)⟩
    · exact h.elim
  · split at h
    · rename_i a c hx hy
      exact Comes.bind β h.2 (Quiet2.of (Quiet1.concat hop (abY β hx) (abY β hy) h.1))
    · exact h.elim
  · exact h.elim
theorem aeS {s d : Nat} {x : Operand} (hT : TTab.Ok P T) (hop : o.op = .convert s d x) (h : agz T s d x st k) : Comes P n β st o k := by
  unfold agz at h
  split at h
  · rename_i e sl h1 h2 hx
    split at h
    · rename_i h3
      obtain ⟨ns, hc, hk⟩ := h
      exact ⟨_, hk, Quiet2.of (Quiet1.strOf hT hop h1 h3 h2 (uN β hx) hc)⟩
    · exact h.elim
  · exact h.elim
theorem ae6 {fn : Fn} {fs cs : Array Operand} (hop : o.op = .makeFunc fn fs cs) (h : aeX fn fs.toList cs.toList st k) : Comes P n β st o k := by
  unfold aeX at h
  split at h
  · rename_i bs cs h1 h2
    exact ⟨_, h, Quiet2.of (Quiet1.makeFn hop (abn β h1) (abn β h2))⟩
  · exact h.elim
theorem mI {fl : Bool} (hT : TTab.Ok P T) (h : shQ T fl o st k) : Comes P n β st o k := by
  unfold shQ at h
  split at h
  · rename_i s hs
    exact Comes.bind β h (adG hT hs)
  · split at h <;> rename_i hop
    · exact aeJ β hT hop h
    · exact ag4 β hop h
    · exact aeu β hT hop h
    · exact adJ β hT hop h
    · exact acR β hT hop h
    · exact acQ β hT hop h
    · exact acN β hT hop h
    · exact agp β hT hop h
    · exact aeS β hT hop h
    · exact ae6 β hop h
    · exact h.elim
end
end Go.Lift

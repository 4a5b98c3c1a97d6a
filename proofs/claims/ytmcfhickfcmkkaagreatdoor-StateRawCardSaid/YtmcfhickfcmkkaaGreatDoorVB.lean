/-
  Laws that the proof of this claim's statement leans on, each proved under the conditions that it states.
-/
import Derived.Test.YtmcfhickfcmkkaaGreatDoorVA
set_option linter.unusedVariables false
set_option linter.unusedSimpArgs false
namespace Go.Lift
open Go
inductive Prm where
  | sh (s : Shp)
  | fn (f : Nat) (bs : List Shp) (nc : Nat)
  | ifc (t : Nat) (s : Shp)
def Prm.flat : Prm → List Shp
  | .sh s => [s]
  | .fn _ bs nc => bs ++ List.replicate nc (false, [.adr])
  | .ifc _ s => [s]
def lh : List Prm → List Shp
  | [] => []
  | p :: r => p.flat ++ lh r
def ATup : List Shp → Type
  | [] => Unit
  | s :: r => Tup s.2 × ATup r
def ATup.vals : (ss : List Shp) → ATup ss → List Value
  | [], _ => []
  | s :: r, x => s.toV x.1 :: ATup.vals r x.2
def Cur : List Shp → Type → Type
  | [], R => R
  | s :: r, R => Tup s.2 → Cur r R
def Cur.ap {R : Type} : (ss : List Shp) → Cur ss R → ATup ss → R
  | [], f, _ => f
  | _ :: r, f, x => Cur.ap r (f x.1) x.2
def RTup : List Shp → Type
  | [] => Unit
  | s :: r => match r with
    | [] => Tup s.2
    | _ :: _ => Tup s.2 × RTup r
def RTup.tvs : (rs : List Shp) → RTup rs → List TV
  | [], _ => []
  | [s], x => [TV.mk s x]
  | s :: s2 :: r, x => TV.mk s x.1 :: RTup.tvs (s2 :: r) x.2
def RTup.sv (rs : List Shp) (x : RTup rs) : SV :=
  match RTup.tvs rs x with
  | [v] => .t v
  | l => .tup l
def RTup.toV (rs : List Shp) (x : RTup rs) : Value := (RTup.sv rs x).val fun _ => 0
theorem RTup.sv_val (rs : List Shp) (x : RTup rs) (β : Nat → Nat) : (RTup.sv rs x).val β = RTup.toV rs x := by
  unfold RTup.toV RTup.sv
  split <;> rfl
def pack : List Prm → List Value → List Value
  | [], _ => []
  | .sh _ :: r, vs => vs.take 1 ++ pack r (vs.drop 1)
  | .fn f bs nc :: r, vs => .func (.func f) (vs.take bs.length).toArray ((vs.drop bs.length).take nc).toArray :: pack r (vs.drop (bs.length + nc))
  | .ifc t _ :: r, vs => .iface t (vs.getD 0 undef) :: pack r (vs.drop 1)
def reTV : Value → TV
  | .agg cs => .agg (cs.toList.map fun v => .v v true)
  | v => .sg (.v v true)
theorem af0 (v : Value) : (reTV v).val = v := by
  cases v <;> first | rfl | skip
  simp [reTV, TV.val, CV.val, Function.comp_def]
def mv : List Prm → List TV → Option (List TV)
  | [], [] => some []
  | .sh _ :: r, x :: xs => match mv r xs with
    | some l => some (x :: l)
    | none => none
  | .fn f bs nc :: r, x :: xs => match x with
    | .sg (.v (.func (.func f') b c) _) => match Nat.beq f' f && Nat.beq b.toList.length bs.length && Nat.beq c.toList.length nc with
      | true => match mv r xs with
        | some l => some (b.toList.map reTV ++ c.toList.map reTV ++ l)
        | none => none
      | false => none
    | _ => none
  | .ifc t _ :: r, x :: xs => match x with
    | .sg (.v (.iface t' v) _) => match Nat.beq t' t with
      | true => match mv r xs with
        | some l => some (reTV v :: l)
        | none => none
      | false => none
    | _ => none
  | _, _ => none
theorem afR (l : List Value) : (l.map reTV).map TV.val = l := by
  have : TV.val ∘ reTV = id := funext af0
  simp [this]
theorem mF : ∀ {ps : List Prm} {xs l : List TV}, mv ps xs = some l → xs.map TV.val = pack ps (l.map TV.val)
  | [], xs, l, h => by
    cases xs with
    | nil => rfl
    | cons x xs => simp [mv] at h
  | .sh s :: r, xs, l, h => by
    cases xs with
    | nil => simp [mv] at h
    | cons x xs =>
      simp only [mv] at h
      split at h
      · rename_i l' h1
        cases h
        simp [pack, mF h1]
      · cases h
  | .fn f bs nc :: r, xs, l, h => by
    cases xs with
    | nil => simp [mv] at h
    | cons x xs =>
      simp only [mv] at h
      split at h
      · rename_i f' b c sm
        split at h
        · rename_i hb
          simp only [Bool.and_eq_true] at hb
          obtain ⟨⟨h1, h2⟩, h3⟩ := hb
          have h1 := Nat.eq_of_beq_eq_true h1
          have h2 := Nat.eq_of_beq_eq_true h2
          have h3 := Nat.eq_of_beq_eq_true h3
          split at h
          · rename_i l' h4
            cases h
            have e := mF h4
            simp only [List.map_cons, List.map_append, afR, pack, TV.val, CV.val]
            rw [e, ← h2, ← h3, h1]
            simp [List.take_append, List.drop_append, List.drop_eq_nil_of_le]
          · cases h
        · cases h
      · cases h
  | .ifc t s :: r, xs, l, h => by
    cases xs with
    | nil => simp [mv] at h
    | cons x xs =>
      simp only [mv] at h
      split at h
      · rename_i t' v sm
        split at h
        · rename_i hb
          have hb := Nat.eq_of_beq_eq_true hb
          subst hb
          split at h
          · rename_i l' h4
            cases h
            show Value.iface t' v :: xs.map TV.val = Value.iface t' (reTV v).val :: pack r (l'.map TV.val)
            rw [af0, mF h4]
          · cases h
        · cases h
      · cases h
def ac8 : (ss : List Shp) → List TV → Option (ATup ss)
  | [], [] => some ()
  | s :: r, x :: xs => match TV.of s x, ac8 r xs with
    | some y, some z => some (y, z)
    | _, _ => none
  | _, _ => none
theorem aaO : ∀ {ss : List Shp} {xs : List TV} {x : ATup ss}, ac8 ss xs = some x → xs.map TV.val = ATup.vals ss x := by
  intro ss
  induction ss with
  | nil =>
    intro xs x h
    cases xs with
    | nil => rfl
    | cons y ys => cases h
  | cons s r ih =>
    intro xs x h
    cases xs with
    | nil => cases h
    | cons y ys =>
      simp only [ac8] at h
      split at h
      · rename_i a b h1 h2
        cases h
        show y.val :: ys.map TV.val = s.toV a :: ATup.vals r b
        rw [TV.of_val h1, ih h2]
      · cases h
structure Ent (P : Program) where
  f : Nat
  ps : List Prm
  rs : List Shp
  sem : Cur (lh ps) (Heap → (RTup rs → Heap → Prop) → Prop)
  ok : ∀ (x : ATup (lh ps)) (w : World) (m : Heap) (S : RTup rs → Heap → Prop), Rel ⟨m, []⟩ w.heap → Cur.ap (lh ps) sem x m S → Calls P f (pack ps (ATup.vals _ x)).toArray w (Post ⟨w, m⟩ (RTup.toV rs) S)
  call : ∀ vs w, (callFunc f vs).run P w = .ok (.enter f vs) w
def agm {P : Program} : List (Ent P) → Nat → List TV → Heap → (SV → Heap → Prop) → Prop
  | [], _, _, _, _ => False
  | e :: r, f, xs, m, k => match Nat.beq e.f f with
    | true => match mv e.ps xs with
      | some l => match ac8 (lh e.ps) l with
        | some x => Cur.ap (lh e.ps) e.sem x m fun r m' => k (RTup.sv e.rs r) m'
        | none => agm r f xs m k
      | none => agm r f xs m k
    | false => agm r f xs m k
theorem nN {P : Program} : ∀ {tbl : List (Ent P)} {f : Nat} {xs : List TV} {m : Heap} {k : SV → Heap → Prop}, agm tbl f xs m k →
    (∀ vs w, (callFunc f vs).run P w = .ok (.enter f vs) w) ∧ ∃ (rs : List Shp) (sh : Heap → Prop), sh m ∧ ∀ w m, Rel ⟨m, []⟩ w.heap → sh m → Calls P f (xs.map TV.val).toArray w (Post ⟨w, m⟩ (RTup.toV rs) fun r m' => k (RTup.sv rs r) m')
  | [], f, xs, m, k, h => h.elim
  | e :: r, f, xs, m, k, h => by
    simp only [agm] at h
    split at h
    · rename_i hb
      have hb := Nat.eq_of_beq_eq_true hb
      subst hb
      split at h
      · rename_i l hl
        split at h
        · rename_i x hx
          refine ⟨e.call, e.rs, fun m => Cur.ap (lh e.ps) e.sem x m fun r m' => k (RTup.sv e.rs r) m', h, fun w m hr hs => ?_⟩
          rw [mF hl, aaO hx]
          exact e.ok x w m _ hr hs
        · exact nN h
      · exact nN h
    · exact nN h
def exN : Nat → (List Addr → Prop) → Prop
  | 0, k => k []
  | n + 1, k => ∃ a : Addr, exN n fun l => k (a :: l)
def ajX {P : Program} : List (Ent P) → Nat → Nat → FnV → List TV → Heap → (SV → Heap → Prop) → Prop
  | [], _, _, _, _, _, _ => False
  | e :: r, f, nc, v, xs, m, k => match Nat.beq e.f f with
    | true => Lift.dyn (fun K : RTup e.rs → Heap → Prop => exN nc fun l => v = FnV.mk f [] (l.map fun a => Value.pointer (some a)) ∧ (match mv e.ps (xs ++ l.map fun a => .sg (.adr a)) with
      | some l => match ac8 (lh e.ps) l with
        | some x => Cur.ap (lh e.ps) e.sem x m K
        | none => False
      | none => False)) fun r m' => k (RTup.sv e.rs r) m'
    | false => ajX r f nc v xs m k
theorem ahF : ∀ {n : Nat} {k : List Addr → Prop}, exN n k → ∃ l, k l
  | 0, k, h => ⟨[], h⟩
  | n + 1, k, ⟨a, h⟩ => by
    obtain ⟨l, hl⟩ := ahF h
    exact ⟨a :: l, hl⟩
theorem xf {P : Program} : ∀ {tbl : List (Ent P)} {f nc : Nat} {v : FnV} {xs : List TV} {m : Heap} {k : SV → Heap → Prop}, ajX tbl f nc v xs m k →
    ∃ cs : List Value, v = FnV.mk f [] cs ∧ (∀ vs w, (callFunc f vs).run P w = .ok (.enter f vs) w) ∧ ∃ (rs : List Shp) (sh : Heap → Prop), sh m ∧ ∀ w m, Rel ⟨m, []⟩ w.heap → sh m → Calls P f (xs.map TV.val ++ cs).toArray w (Post ⟨w, m⟩ (RTup.toV rs) fun r m' => k (RTup.sv rs r) m')
  | [], _, _, _, _, _, _, h => h.elim
  | e :: r, f, nc, v, xs, m, k, h => by
    simp only [ajX] at h
    split at h
    · rename_i hb
      have hb := Nat.eq_of_beq_eq_true hb
      subst hb
      obtain ⟨l, hv, h⟩ := ahF h
      split at h
      · rename_i l' hl
        split at h
        · rename_i x hx
          refine ⟨_, hv, e.call, e.rs, fun m => Cur.ap (lh e.ps) e.sem x m fun r m' => k (RTup.sv e.rs r) m', h, fun w m hr hs => ?_⟩
          have h1 := mF hl
          rw [List.map_append, List.map_map, aaO hx] at h1
          have h2 : (l.map (TV.val ∘ fun a => TV.sg (.adr a))) = l.map fun a => Value.pointer (some a) := rfl
          rw [h2] at h1
          rw [h1]
          exact e.ok x w m _ hr hs
        · exact h.elim
      · exact h.elim
    · exact xf h
def ahD : List (Nat × Nat × Nat) → Nat → Option (Nat × Nat)
  | [], _ => none
  | (i, x) :: r, n => match Nat.beq i n with
    | true => some x
    | false => ahD r n
structure Hint where
  prv : List Nat
  mul : List Nat
  nmd : List Nat
  joins : List (Nat × List (Nat × Nat) × List (Nat × Nat))
  dead : List (Nat × Bool)
  dyn : List (Nat × Nat × Nat)
def memN : List Nat → Nat → Bool
  | [], _ => false
  | x :: r, k => match Nat.beq x k with
    | true => true
    | false => memN r k
theorem i7 {l : List Nat} {k : Nat} : memN l k = true ↔ k ∈ l := by
  induction l with
  | nil => simp [memN]
  | cons x r ih =>
    simp only [memN]
    split
    · rename_i h; have := Nat.eq_of_beq_eq_true h; simp [this]
    · rename_i h
      have : x ≠ k := fun e => by subst e; simp at h
      rw [ih]
      simp [Ne.symm this]
def o0 : List (Nat × List CV) → Nat → List CV → List (Nat × List CV)
  | [], _, _ => []
  | (i, c) :: r, k, c' => match Nat.beq i k with
    | true => (i, c') :: r
    | false => (i, c) :: o0 r k c'
def qD (k : Nat) : SV → Bool
  | .pv j _ => Nat.beq j k
  | _ => false
def St.lay (st : St) (d : Nat) (cs : List CV) : St :=
  { st with E := st.E.filter (fun p => !qD d p.2), pv := (d, cs) :: st.pv.filter (fun p => !Nat.beq p.1 d), dirty := (d, true) :: st.dirty }
def St.layK (st : St) (d : Nat) (cs : List CV) (k : SV → St → Prop) : Prop :=
  match st.mem with
  | true => k (.pv d 0) (st.lay d cs)
  | false => Lift.mem st.m fun m => k (.pv d 0) { st.lay d cs with m := m, mem := true }
def xe (T : TTab) (t : Nat) (x y : Operand) (st : St) (k : SV → St → Prop) : Prop :=
  match T.size t, st.E.ev x, st.E.ev y with
  | some sz, some (.pv kk off), some (.t (.sg c)) => match ox st.pv kk with
    | some cs => match Nat.beq sz 1 && oneC c && Nat.blt off cs.length with
      | true => k .un { st with pv := o0 st.pv kk (cs.set off c), dirty := (kk, false) :: st.dirty }
      | false => False
    | none => False
  | some sz, some (.pv kk off), some (.t (.agg l)) => match ox st.pv kk with
    | some cs => match Nat.beq sz l.length && l.all oneC && Nat.ble (off + l.length) cs.length with
      | true => k .un { st with pv := o0 st.pv kk (cs.take off ++ l ++ cs.drop (off + l.length)), dirty := (kk, false) :: st.dirty }
      | false => False
    | none => False
  | some sz, some (.t (.sg (.adr a))), some (.t (.sg c)) => match Nat.beq sz 1 && oneC c with
    | true => Lift.amL a c.val st.m fun m => k .un { st with m := m }
    | false => False
  | some sz, some (.t (.sg (.adr a))), some (.t (.agg l)) => match Nat.beq sz l.length && l.all oneC with
    | true => Lift.dk a (l.map CV.val) st.m fun m => k .un { st with m := m }
    | false => False
  | _, _, _ => False
def eNew (hint : Hint) (d : Option Nat) (cs : List CV) (st : St) (k : SV → St → Prop) : Prop :=
  match d with
  | some d => match memN hint.prv d with
    | true => st.layK d cs k
    | false => Lift.new (cs.map CV.val) st.m fun a m => k (.t (.sg (.adr a))) { st with m := m }
  | none => Lift.new (cs.map CV.val) st.m fun a m => k (.t (.sg (.adr a))) { st with m := m }
def boxC (E : Env) (x : Operand) : Option (List CV) :=
  match E.ev x with
  | some (.t (.sg c)) => match oneC c with
    | true => some [c]
    | false => none
  | some (.t (.agg l)) => some l
  | _ => none
def akG (T : TTab) (t : Nat) (x y : Operand) (st : St) (k : SV → St → Prop) : Prop :=
  match T.desc t, intE st.E x, intE st.E y with
  | some (.slice e), some (_, len), some (_, cap) => match T.size e, T.bytes e, T.zero e with
    | some sz, some b, some z => match Nat.beq z.length sz && Nat.ble 1 b with
      | true => Lift.mkS z b len cap st.m fun s m => k (.t (.sg (.v (Sl.toV s) true))) { st with m := m }
      | false => False
    | _, _, _ => False
  | _, _, _ => False
def aeN (T : TTab) (t len : Nat) (parts : List (Nat × Operand)) (st : St) (k : SV → St → Prop) : Prop :=
  match T.desc t with
  | some (.slice e) => match T.size e, T.zero e with
    | some sz, some z => match Nat.beq z.length sz && Nat.ble (len * sz) 16777216 with
      | true => match afq st.E (fun i => some (i * sz, sz)) ((List.flatten (List.replicate len z)).map ku) parts with
        | some l => Lift.new (l.map CV.val) st.m fun a m => k (.t (.sg (.v (.slice (some a) len len) false))) { st with m := m }
        | none => False
      | false => False
    | _, _ => False
  | _ => False
def aeA (T : TTab) (args : List Operand) (tys : List Nat) (st : St) (k : SV → St → Prop) : Prop :=
  match args, tys with
  | [x, y], [t, u] => match T.desc t, slE st.E x with
    | some (.slice e), some s => match T.size e, T.bytes e, T.zero e with
      | some sz, some b, some z => match Nat.beq z.length sz && Nat.ble 1 b && Nat.ble b 1024 with
        | true => match T.desc u with
          | some (.int _) => match Nat.blt 0 sz, intE st.E y with
            | true, some (.i64, j) => Lift.akU sz b z s j st.m fun s m => k (.t (.sg (.v (Sl.toV s) true))) { st with m := m }
            | _, _ => False
          | some (.slice _) => match Nat.beq t u, slE st.E y with
            | true, some s' => Lift.aP sz b s s' st.m fun s m => k (.t (.sg (.v (Sl.toV s) true))) { st with m := m }
            | _, _ => False
          | _ => False
        | false => False
      | _, _, _ => False
    | _, _ => False
  | _, _ => False
def tvs (E : Env) : List Operand → Option (List TV)
  | [] => some []
  | x :: r => match E.ev x, tvs E r with
    | some (.t v), some l => some (v :: l)
    | _, _ => none
def akK {P : Program} (tbl : List (Ent P)) (hint : Hint) (x : Operand) (args : List Operand) (st : St) (k : SV → St → Prop) : Prop :=
  match st.E.ev x, tvs st.E args with
  | some (.t (.sg (.fnv v))), some xs => match x with
    | .tmp s => match ahD hint.dyn s with
      | some (f, nc) => ajX tbl f nc v xs st.m fun s m => k s { st with m := m }
      | none => False
    | _ => False
  | some (.t (.sg (.v (.func (.func f) b c) _))), some xs => agm tbl f (b.toList.map reTV ++ xs ++ c.toList.map reTV) st.m fun s m => k s { st with m := m }
  | _, _ => False
def shE {P : Program} (T : TTab) (tbl : List (Ent P)) (hint : Hint) (o : Oper) (st : St) (k : SV → St → Prop) : Prop :=
  match o.op with
  | .store t x y => match o.dst with
    | none => xe T t x y st k
    | some _ => False
  | .box _ x => match boxC st.E x with
    | some cs => eNew hint o.dst cs st k
    | none => False
  | .alloc t => match T.zero t with
    | some z => eNew hint o.dst (z.map ku) st k
    | none => False
  | .makeSlice t x y => akG T t x y st k
  | .buildSlice t len parts => aeN T t len parts.toList st k
  | .call ⟨.builtin .append, args, tys⟩ => aeA T args.toList tys.toList st k
  | .call ⟨.value x, args, _⟩ => akK tbl hint x args.toList st k
  | _ => False
def abO : Op → Bool
  | .store _ _ _ => true
  | .box _ _ => true
  | .alloc _ => true
  | .makeSlice _ _ _ => true
  | .buildSlice _ _ _ => true
  | .call ⟨.builtin .append, _, _⟩ => true
  | .call ⟨.value _, _, _⟩ => true
  | _ => false
def rJ (hint : Hint) (o : Oper) : Bool :=
  match o.op, o.dst with
  | .box _ _, some d => memN hint.prv d
  | .alloc _, some d => memN hint.prv d
  | _, _ => false
end Go.Lift

namespace Go.Lift
open Go
structure Ext2 (D : List Nat) (β : Nat → Nat) (st : St) (β' : Nat → Nat) (st' : St) (pre : List (Nat × Bool)) : Prop where
  dirty : st'.dirty = pre ++ st.dirty
  laid : ∀ k, (k, true) ∈ pre → k ∈ D
  beta : ∀ k, (k, true) ∉ pre → β' k = β k
  pv : ∀ p ∈ st.pv, (∃ b, (p.1, b) ∈ pre) ∨ p ∈ st'.pv
  env : ∀ p ∈ st.E, p.1 ∈ D ∨ (∃ k, qD k p.2 = true ∧ (k, true) ∈ pre) ∨ p ∈ st'.E
abbrev ExtS (D : List Nat) (β : Nat → Nat) (st : St) (β' : Nat → Nat) (st' : St) : Prop := ∃ pre, Ext2 D β st β' st' pre
def HS (st : St) (F : St → Prop) : Prop :=
  match st.mem with
  | true => ∀ m', MExt st.m m' → F { st with m := m' }
  | false => F st
structure Real (n : Nat) (B : Base) (β : Nat → Nat) (st : St) (a : Act) (w : World) : Prop where
  holds : Holds n β st.E a
  inw : InW B (hpOf β st.m st.pv) w
  nd : (st.pv.map (·.1)).Nodup
def Eff2 (P : Program) (n : Nat) (B : Base) (β : Nat → Nat) (st : St) (o : Oper) (K : SV → St → Prop) : Prop :=
  ∀ a w, Real n B β st a w → ∀ (next : Act → World → Prop) (Q : Exit → Act → World → Prop),
    (∀ w' β' s st', Real n B β' st' a w' → ExtS o.dst.toList β st β' st' → K s st' → next (a.put o.dst (s.val β')) w') → o.wp P a w next Q
section
variable {P : Program} {T : TTab} {n : Nat} {B : Base} (β : Nat → Nat) {st : St} {o : Oper} {k : SV → St → Prop}
theorem ExtS.refl (D : List Nat) (β : Nat → Nat) (st : St) : ExtS D β st β st :=
  ⟨[], ⟨rfl, by simp, fun _ _ => rfl, fun p hp => .inr hp, fun p hp => .inr (.inr hp)⟩⟩
theorem ExtS.heap (D : List Nat) (β : Nat → Nat) (st : St) (m : Heap) : ExtS D β st β { st with m := m } :=
  ⟨[], ⟨rfl, by simp, fun _ _ => rfl, fun p hp => .inr hp, fun p hp => .inr (.inr hp)⟩⟩
theorem agd {pv : List (Nat × List CV)} {k : Nat} {c : List CV} (β : Nat → Nat) (h : ox pv k = some c) :
    ∃ i : Nat, (pv.map fun p => (β p.1, p.2.map CV.val))[i]? = some (β k, c.map CV.val) ∧
      ∀ c', ((o0 pv k c').map fun p => (β p.1, p.2.map CV.val)) = (pv.map fun p => (β p.1, p.2.map CV.val)).set i (β k, c'.map CV.val) := by
  induction pv with
  | nil => cases h
  | cons p r ih =>
    obtain ⟨j, c0⟩ := p
    simp only [ox] at h
    split at h
    · rename_i hb
      have hb' := Nat.eq_of_beq_eq_true hb
      subst hb'
      cases h
      refine ⟨0, by simp, fun c' => ?_⟩
      simp [o0]
    · rename_i hb
      obtain ⟨i, h1, h2⟩ := ih h
      refine ⟨i + 1, by simpa using h1, fun c' => ?_⟩
      simp only [o0, hb, List.map_cons, List.set_cons_succ, h2]
theorem uw (pv : List (Nat × List CV)) (k : Nat) (c : List CV) : (o0 pv k c).map (·.1) = pv.map (·.1) := by
  induction pv with
  | nil => rfl
  | cons p r ih =>
    obtain ⟨j, c0⟩ := p
    simp only [o0]
    split <;> simp [ih]
theorem aaP {pv : List (Nat × List CV)} {k : Nat} {c : List CV} : ∀ p ∈ pv, p.1 = k ∨ p ∈ o0 pv k c := by
  induction pv with
  | nil => simp
  | cons q r ih =>
    obtain ⟨j, c0⟩ := q
    intro p hp
    simp only [o0]
    split
    · rename_i hb
      have := Nat.eq_of_beq_eq_true hb
      rcases List.mem_cons.1 hp with rfl | hp
      · exact .inl this
      · exact .inr (List.mem_cons_of_mem _ hp)
    · rcases List.mem_cons.1 hp with rfl | hp
      · exact .inr (List.mem_cons_self ..)
      · rcases ih p hp with h | h
        · exact .inl h
        · exact .inr (List.mem_cons_of_mem _ h)
theorem adu (l : List Value) : ∀ (cs : List Value) (off : Nat), off + l.length ≤ cs.length → jq cs off l = cs.take off ++ l ++ cs.drop (off + l.length) := by
  induction l with
  | nil => intro cs off h; simp [jq]
  | cons v l ih =>
    intro cs off h
    simp only [List.length_cons] at h
    rw [jq, ih _ _ (by simp; omega)]
    rw [List.drop_set, if_pos (by omega), List.take_set]
    have : List.take (off + 1) cs = List.take off cs ++ [cs[off]'(by omega)] := by rw [List.take_succ_eq_append_getElem]
    rw [this, List.set_append, if_neg (by simp; omega)]
    simp only [List.length_take, Nat.min_eq_left (show off ≤ cs.length by omega), Nat.sub_self, List.set_cons_zero, List.length_cons, List.append_assoc, List.cons_append, List.nil_append]
    rw [show off + 1 + l.length = off + (l.length + 1) by omega]
theorem ace {l : List CV} (h : l.all oneC = true) : bT (l.map CV.val) = true := by
  unfold bT
  rw [List.all_map, List.all_eq_true]
  intro c hc
  exact qu (List.all_eq_true.1 h c hc)
theorem Eff2.kept {kk : Nat} {cs' : List CV} {K' : SV → St → Prop} (hd : o.dst = none) (h : Eff P n B (st.E.frm β) (hpOf β st.m st.pv) o (fun _ h' => h' = hpOf β st.m (o0 st.pv kk cs')))
    (hk : K' .un { st with pv := o0 st.pv kk cs', dirty := (kk, false) :: st.dirty }) : Eff2 P n B β st o K' := by
  intro a w hr next Q hn
  refine h a w hr.holds.frm hr.inw next Q fun v w' h' hi hK => ?_
  subst hK
  have := hn w' β .un { st with pv := o0 st.pv kk cs', dirty := (kk, false) :: st.dirty } ⟨hr.holds, hi, by rw [uw]; exact hr.nd⟩
    ⟨[(kk, false)], ⟨rfl, by simp, fun _ _ => rfl, fun p hp => by
      rcases aaP (k := kk) (c := cs') p hp with h | h
      · exact .inl ⟨false, by rw [show p.1 = kk from h]; simp⟩
      · exact .inr h, fun p hp => .inr (.inr hp)⟩⟩ hk
  rw [hd] at this ⊢
  exact this
def EffH (P : Program) (n : Nat) (B : Base) (β : Nat → Nat) (st : St) (pv : List (Nat × List Value)) (o : Oper) (k : SV → St → Prop) : Prop :=
  Eff P n B (st.E.frm β) ⟨st.m, pv⟩ o (fun v h' => ∃ s m, (o.dst = none ∨ v = s.val β) ∧ h' = ⟨m, pv⟩ ∧ k s { st with m := m })
theorem EffH.eff2 (h : ∀ pv, EffH P n B β st pv o k) : Eff2 P n B β st o k := by
  intro a w hr next Q hn
  refine h (hpOf β st.m st.pv).pv a w hr.holds.frm hr.inw next Q fun v w' h' hi ⟨s, m, e, e2, hk⟩ => ?_
  subst e2
  have := hn w' β s { st with m := m } ⟨hr.holds, hi, hr.nd⟩ (ExtS.heap _ β st m) hk
  rcases e with e | e
  · rw [e] at this ⊢; exact this
  · rw [e]; exact this
theorem EffH.of {pv : List (Nat × List Value)} {K : Value → Hp → Prop} (h : Eff P n B (st.E.frm β) ⟨st.m, pv⟩ o K) (hk : ∀ v h', K v h' → ∃ s m, v = s.val β ∧ h' = ⟨m, pv⟩ ∧ k s { st with m := m }) : EffH P n B β st pv o k := by
  intro a w ha hw next Q hn
  refine h a w ha hw next Q fun v w' h' hi hK => ?_
  obtain ⟨s, m, e1, e2, h3⟩ := hk v h' hK
  exact hn v w' h' hi ⟨s, m, .inr e1, e2, h3⟩
theorem EffH.ofN {pv : List (Nat × List Value)} {K : Value → Hp → Prop} (hd : o.dst = none) (h : Eff P n B (st.E.frm β) ⟨st.m, pv⟩ o K) (hk : ∀ v h', K v h' → ∃ m, h' = ⟨m, pv⟩ ∧ k .un { st with m := m }) : EffH P n B β st pv o k := by
  intro a w ha hw next Q hn
  refine h a w ha hw next Q fun v w' h' hi hK => ?_
  obtain ⟨m, e2, h3⟩ := hk v h' hK
  exact hn v w' h' hi ⟨.un, m, .inl hd, e2, h3⟩
def ahe (E : Env) (x : Operand) : Bool :=
  match E.ev x with
  | some (.t (.sg (.adr _))) => true
  | _ => false
theorem abM {t : Nat} {x y : Operand} (hT : TTab.Ok P T) (hop : o.op = .store t x y) (hd : o.dst = none) (hx : ahe st.E x = true) (h : xe T t x y st k) (pv : List (Nat × List Value)) : EffH P n B β st pv o k := by
  unfold xe at h
  split at h
  · rename_i hx' _; simp [ahe, hx'] at hx
  · rename_i hx' _; simp [ahe, hx'] at hx
  · rename_i sz a c h1 hx hy
    split at h
    · rename_i hb
      simp only [Bool.and_eq_true] at hb
      have b1 := Nat.eq_of_beq_eq_true hb.1
      subst b1
      exact EffH.ofN β hd (EffX.store hT hop h1 (Env.ev_frm β hx) (Env.ev_frm β hy) (qu hb.2) h) fun v h' ⟨m, e, hk⟩ => ⟨m, e, hk⟩
    · exact h.elim
  · rename_i sz a l h1 hx hy
    split at h
    · rename_i hb
      simp only [Bool.and_eq_true] at hb
      have b1 := Nat.eq_of_beq_eq_true hb.1
      subst b1
      exact EffH.ofN β hd (EffX.storeS hT hop h1 (Env.ev_frm β hx) (Env.ev_frm β hy) (by simp) (ace hb.2) h) fun v h' ⟨m, e, hk⟩ => ⟨m, e, hk⟩
    · exact h.elim
  · exact h.elim
theorem acX {t : Nat} {x y : Operand} (hT : TTab.Ok P T) (hop : o.op = .store t x y) (hd : o.dst = none) (h : xe T t x y st k) : Eff2 P n B β st o k := by
  unfold xe at h
  split at h
  · rename_i sz kk off c h1 hx hy
    split at h
    · rename_i cs hc
      split at h
      · rename_i hb
        simp only [Bool.and_eq_true] at hb
        obtain ⟨⟨b1, b2⟩, b3⟩ := hb
        have b1 := Nat.eq_of_beq_eq_true b1
        subst b1
        obtain ⟨i, h2, h3⟩ := agd β hc
        refine Eff2.kept β hd ?_ h
        refine EffX.storeP (i := i) hT hop h1 (Env.ev_frm β hx) (Env.ev_frm β hy) (qu b2) h2 rfl (by simpa using b3) ?_
        rw [h3]
        simp [List.map_set, SV.val, TV.val]
      · exact h.elim
    · exact h.elim
  · rename_i sz kk off l h1 hx hy
    split at h
    · rename_i cs hc
      split at h
      · rename_i hb
        simp only [Bool.and_eq_true] at hb
        obtain ⟨⟨b1, b2⟩, b3⟩ := hb
        have b1 := Nat.eq_of_beq_eq_true b1
        subst b1
        obtain ⟨i, h2, h3⟩ := agd β hc
        refine Eff2.kept β hd ?_ h
        refine EffX.storeSP (i := i) hT hop h1 (Env.ev_frm β hx) (Env.ev_frm β hy) (by simp) (ace b2) h2 rfl (by simpa using b3) ?_
        have b3 := Nat.le_of_ble_eq_true b3
        rw [h3, adu _ _ _ (by simp; omega)]
        simp [List.map_take, List.map_drop]
      · exact h.elim
    · exact h.elim
  · rename_i sz a c h1 hx hy
    exact EffH.eff2 β fun pv => abM β hT hop hd (by simp [ahe, hx]) (by simp only [xe, h1, hx, hy]; exact h) pv
  · rename_i sz a l h1 hx hy
    exact EffH.eff2 β fun pv => abM β hT hop hd (by simp [ahe, hx]) (by simp only [xe, h1, hx, hy]; exact h) pv
  · exact h.elim
theorem alo {t : Nat} {x y : Operand} (hT : TTab.Ok P T) (hop : o.op = .makeSlice t x y) (h : akG T t x y st k) (pv : List (Nat × List Value)) : EffH P n B β st pv o k := by
  unfold akG at h
  split at h
  · rename_i e k1 len k2 cap h1 hx hy
    split at h
    · rename_i sz b z h2 h3 h4
      split at h
      · rename_i hb
        simp only [Bool.and_eq_true] at hb
        exact EffH.of β (EffX.mkS hT hop h1 h2 h3 h4 (Nat.eq_of_beq_eq_true hb.1) (gN β hx) (gN β hy) (Nat.le_of_ble_eq_true hb.2) h) fun v h' ⟨r, m, e1, e2, hk⟩ => ⟨.t (.sg (.v (Sl.toV r) true)), m, e1, e2, hk⟩
      · exact h.elim
    · exact h.elim
  · exact h.elim
theorem aiV {t len : Nat} {parts : Array (Nat × Operand)} (hT : TTab.Ok P T) (hop : o.op = .buildSlice t len parts) (h : aeN T t len parts.toList st k) (pv : List (Nat × List Value)) : EffH P n B β st pv o k := by
  unfold aeN at h
  split at h
  · rename_i e h1
    split at h
    · rename_i sz z h2 h3
      split at h
      · rename_i hb
        simp only [Bool.and_eq_true] at hb
        split at h
        · rename_i l hl
          obtain ⟨pv, e1, e2⟩ := kZ β hl
          rw [qC] at e2
          exact EffH.of β (EffX.buildS2 hT hop h1 h2 h3 (Nat.eq_of_beq_eq_true hb.1) hb.2 e1 e2 h) fun v h' ⟨r, m, e1, e2, hk⟩ => ⟨.t (.sg (.v (.slice (some r) len len) false)), m, e1, e2, hk⟩
        · exact h.elim
      · exact h.elim
    · exact h.elim
  · exact h.elim
theorem ahJ {args : Array Operand} {tys : Array TypeId} (hT : TTab.Ok P T) (hop : o.op = .call ⟨.builtin .append, args, tys⟩) (h : aeA T args.toList tys.toList st k) (pv : List (Nat × List Value)) : EffH P n B β st pv o k := by
  unfold aeA at h
  split at h
  · rename_i x y t u hargs htys
    split at h
    · rename_i e s h1 hx
      split at h
      · rename_i sz b z h2 h3 h4
        split at h
        · rename_i hb
          simp only [Bool.and_eq_true] at hb
          obtain ⟨⟨b1, b2⟩, b3⟩ := hb
          have b1 := Nat.eq_of_beq_eq_true b1
          have b2 := Nat.le_of_ble_eq_true b2
          have b3 := Nat.le_of_ble_eq_true b3
          split at h
          · rename_i kd hu
            split at h
            · rename_i j h5 hy
              exact EffH.of β (EffX.appendZ hT hop hargs htys h1 hu h2 h3 h4 b1 (by simpa using h5) (uN β hx) (gN β hy) ⟨b2, b3⟩ h) fun v h' ⟨r, m, e1, e2, hk⟩ => ⟨.t (.sg (.v (Sl.toV r) true)), m, e1, e2, hk⟩
            · exact h.elim
          · rename_i e' hu
            split at h
            · rename_i s' h5 hy
              have h5 := Nat.eq_of_beq_eq_true h5
              subst h5
              exact EffH.of β (EffX.appendS hT hop hargs htys h1 h2 h3 h4 b1 (uN β hx) (uN β hy) ⟨b2, b3⟩ h) fun v h' ⟨r, m, e1, e2, hk⟩ => ⟨.t (.sg (.v (Sl.toV r) true)), m, e1, e2, hk⟩
            · exact h.elim
          · exact h.elim
        · exact h.elim
      · exact h.elim
    · exact h.elim
  · exact h.elim
theorem ahT {E : Env} (β : Nat → Nat) : ∀ {l : List Operand} {xs : List TV}, tvs E l = some xs → jt (E.frm β) l = some (xs.map TV.val)
  | [], xs, h => by cases h; rfl
  | x :: r, xs, h => by
    simp only [tvs] at h
    split at h
    · rename_i v l h1 h2
      cases h
      simp [jt, Env.ev_frm β h1, ahT β h2, SV.val]
    · cases h
theorem ak7 {tbl : List (Ent P)} {hint : Hint} {x : Operand} {args : Array Operand} {tys : Array TypeId} (hop : o.op = .call ⟨.value x, args, tys⟩) (h : akK tbl hint x args.toList st k) (pv : List (Nat × List Value)) : EffH P n B β st pv o k := by
  unfold akK at h
  split at h
  · rename_i v xs hx hxs
    split at h
    · split at h
      · rename_i f nc hf
        obtain ⟨cs, rfl, hcall, rs, sh, h0, hl⟩ := xf h
        have hx' := Env.ev_frm β hx
        refine EffH.of β (EffX.callF (S := fun r m' => k (RTup.sv rs r) { st with m := m' }) (toV := RTup.toV rs) (f := f) (bs := []) (cs := cs) hop (by simpa [SV.val, TV.val, CV.val, FnV.toV] using hx') hcall (ahT β hxs) sh h0 (fun w m hr hs => by simpa using hl w m hr hs)) fun v h' ⟨r, m, e1, e2, hk⟩ => ⟨RTup.sv rs r, m, by rw [e1, RTup.sv_val], e2, hk⟩
      · exact h.elim
    · exact h.elim
  · rename_i f b c sm xs hx hxs
    obtain ⟨hcall, rs, sh, h0, hl⟩ := nN h
    have hx' := Env.ev_frm β hx
    have hx' : (st.E.frm β).ev x = some (.func (.func f) b.toList.toArray c.toList.toArray) := by simpa [SV.val, TV.val, CV.val] using hx'
    refine EffH.of β (EffX.callF (S := fun r m' => k (RTup.sv rs r) { st with m := m' }) (toV := RTup.toV rs) hop hx' hcall (ahT β hxs) sh h0 ?_) fun v h' ⟨r, m, e1, e2, hk⟩ => ⟨RTup.sv rs r, m, by rw [e1, RTup.sv_val], e2, hk⟩
    intro w m hr hs
    have := hl w m hr hs
    simp only [List.map_append, afR] at this
    exact this
  · exact h.elim
theorem aaz {E : Env} {x : Operand} {cs : List CV} (β : Nat → Nat) (h : boxC E x = some cs) : ∃ v, (E.frm β).ev x = some v ∧ v.cells = (cs.map CV.val).toArray := by
  unfold boxC at h
  split at h
  · rename_i c hx
    split at h
    · rename_i hb
      cases h
      refine ⟨_, Env.ev_frm β hx, ?_⟩
      have := qu hb
      show c.val.cells = #[c.val]
      cases hc : c.val <;> first | rfl | (rw [hc] at this; simp [one] at this)
    · cases h
  · rename_i l hx
    cases h
    exact ⟨_, Env.ev_frm β hx, rfl⟩
  · cases h
theorem EffH.new {pv : List (Nat × List Value)} {cs : List CV} (h : Lift.new (cs.map CV.val) st.m fun a m => k (.t (.sg (.adr a))) { st with m := m })
    (he : ∀ k' : Addr → Heap → Prop, Lift.new (cs.map CV.val) st.m k' → Eff P n B (st.E.frm β) ⟨st.m, pv⟩ o (fun u h' => ∃ a m, u = .pointer (some a) ∧ h' = ⟨m, pv⟩ ∧ k' a m)) : EffH P n B β st pv o k :=
  EffH.of β (he _ h) fun v h' ⟨a, m, e1, e2, hk⟩ => ⟨.t (.sg (.adr a)), m, e1, e2, hk⟩
theorem akn {pv : List (Nat × List Value)} {hint : Hint} {cs : List CV} (hl : rJ hint o = false) (hb : (∃ t x, o.op = .box t x) ∨ ∃ t, o.op = .alloc t) (h : eNew hint o.dst cs st k)
    (he : ∀ k' : Addr → Heap → Prop, Lift.new (cs.map CV.val) st.m k' → Eff P n B (st.E.frm β) ⟨st.m, pv⟩ o (fun u h' => ∃ a m, u = .pointer (some a) ∧ h' = ⟨m, pv⟩ ∧ k' a m)) : EffH P n B β st pv o k := by
  unfold eNew at h
  split at h
  · rename_i d hd
    have : memN hint.prv d = false := by
      unfold rJ at hl
      rcases hb with ⟨t, x, hop⟩ | ⟨t, hop⟩ <;> simpa [hop, hd] using hl
    rw [this] at h
    exact EffH.new β h he
  · exact EffH.new β h he
def ags (E : Env) (o : Oper) : Bool :=
  match o.op with
  | .store _ x _ => ahe E x
  | _ => true
theorem amo {tbl : List (Ent P)} {hint : Hint} (hT : TTab.Ok P T) (hl : rJ hint o = false) (hp : ags st.E o = true) (h : shE T tbl hint o st k) (pv : List (Nat × List Value)) : EffH P n B β st pv o k := by
  unfold shE at h
  split at h
  · rename_i t x y hop
    split at h
    · rename_i hd; exact abM β hT hop hd (by simpa [ags, hop] using hp) h pv
    · exact h.elim
  · rename_i t x hop
    split at h
    · rename_i cs hc
      obtain ⟨v, h1, h2⟩ := aaz β hc
      exact akn β hl (.inl ⟨_, _, hop⟩) h fun k' hk => EffX.box hop h1 h2 hk
    · exact h.elim
  · rename_i t hop
    split at h
    · rename_i z hz
      exact akn β hl (.inr ⟨_, hop⟩) h fun k' hk => by
        rw [qC] at hk
        exact EffX.alloc hT hop hz hk
    · exact h.elim
  · rename_i hop; exact alo β hT hop h pv
  · rename_i hop; exact aiV β hT hop h pv
  · rename_i hop; exact ahJ β hT hop h pv
  · rename_i hop; exact ak7 β hop h pv
  · exact h.elim
theorem ai0 {tbl : List (Ent P)} {hint : Hint} (hT : TTab.Ok P T) (hl : rJ hint o = false) (h : shE T tbl hint o st k) : Eff2 P n B β st o k := by
  cases hp : ags st.E o
  · unfold shE at h
    split at h
    · rename_i t x y hop
      split at h
      · rename_i hd; exact acX β hT hop hd h
      · exact h.elim
    all_goals (rename_i hop; simp [ags, hop] at hp)
  · exact EffH.eff2 β fun pv => amo β hT hl hp h pv
end
end Go.Lift

namespace Go.Lift
open Go
theorem InW.sub {B : Base} {m : Heap} {pv pv' : List (Nat × List Value)} {w : World} (h : InW B ⟨m, pv⟩ w) (hs : ∀ x ∈ pv', x ∈ pv) (hn : (pv'.map (·.1)).Nodup) : InW B ⟨m, pv'⟩ w :=
  ⟨h.os, h.out, h.tape, ⟨h.rel.size, h.rel.same, fun b cs hb => h.rel.priv b cs (hs _ hb), hn⟩, h.keep, fun b cs hb => h.fresh b cs (hs _ hb), h.grow⟩
theorem al0 {β : Nat → Nat} {m : Heap} {pv : List (Nat × List CV)} {B : Base} {w : World} (h : InW B (hpOf β m pv) w) {p q : Nat × List CV} (hp : p ∈ pv) (hq : q ∈ pv) (e : β p.1 = β q.1) : p = q := by
  have hn : ((pv.map fun p => (β p.1, p.2.map CV.val)).map (·.1)).Nodup := h.rel.nodup
  rw [List.map_map] at hn
  obtain ⟨i, hi, rfl⟩ := List.mem_iff_getElem.1 hp
  obtain ⟨j, hj, rfl⟩ := List.mem_iff_getElem.1 hq
  have := wJ hn (i := i) (j := j) (hi := by simpa using hi) (hj := by simpa using hj) (by simpa using e)
  subst this; rfl
theorem air {d : Nat} {s : SV} {β β' : Nat → Nat} (h : qD d s = false) (hb : ∀ k, k ≠ d → β' k = β k) : s.val β' = s.val β := by
  cases s with
  | pv k off =>
    have : k ≠ d := fun e => by subst e; simp [qD] at h
    simp [SV.val, hb k this]
  | _ => rfl
section
variable {P : Program} {T : TTab} {n : Nat} {B : Base} (β : Nat → Nat) {st : St} {o : Oper} {k : SV → St → Prop}
theorem ajw {a : Act} {w w' : World} {b d : Nat} {m : Heap} {cs : List CV} (hr : Real n B β st a w) (hi : InW B ⟨m, (b, cs.map CV.val) :: (hpOf β st.m st.pv).pv⟩ w') :
    Real n B (fun j => if j = d then b else β j) { st.lay d cs with m := m, mem := true } a w' := by
  have hb : ∀ j, j ≠ d → (fun j => if j = d then b else β j) j = β j := fun j hj => if_neg hj
  refine ⟨⟨hr.holds.size, hr.holds.defers, fun p hp => ?_⟩, ?_, ?_⟩
  · obtain ⟨h1, h2⟩ := List.mem_filter.1 hp
    rw [air (β := β) (by simpa using h2) hb]
    exact hr.holds.at' p h1
  · have e : hpOf (fun j => if j = d then b else β j) m ((d, cs) :: st.pv.filter (fun p => !Nat.beq p.1 d)) = ⟨m, (b, cs.map CV.val) :: ((st.pv.filter (fun p => !Nat.beq p.1 d)).map fun p => (β p.1, p.2.map CV.val))⟩ := by
      unfold hpOf
      congr 1
      simp only [List.map_cons, if_pos]
      congr 1
      refine List.map_congr_left fun p hp => ?_
      obtain ⟨_, h2⟩ := List.mem_filter.1 hp
      have : p.1 ≠ d := fun e => by subst e; simp at h2
      simp [this]
    show InW B (hpOf _ m ((d, cs) :: st.pv.filter (fun p => !Nat.beq p.1 d))) w'
    rw [e]
    refine InW.sub hi ?_ ?_
    · intro x hx
      rcases List.mem_cons.1 hx with rfl | hx
      · exact List.mem_cons_self ..
      · obtain ⟨p, hp, rfl⟩ := List.mem_map.1 hx
        exact List.mem_cons_of_mem _ (List.mem_map.2 ⟨p, (List.mem_filter.1 hp).1, rfl⟩)
    · have := hi.rel.nodup
      refine this.sublist ?_
      simp only [List.map_cons]
      refine List.Sublist.cons_cons _ ?_
      exact ((List.filter_sublist).map _).map _
  · show ((d :: (st.pv.filter (fun p => !Nat.beq p.1 d)).map (·.1))).Nodup
    rw [List.nodup_cons]
    refine ⟨fun hm => ?_, hr.nd.sublist ((List.filter_sublist).map _)⟩
    obtain ⟨p, hp, e⟩ := List.mem_map.1 hm
    obtain ⟨_, h2⟩ := List.mem_filter.1 hp
    subst e
    simp at h2
theorem akC {d b : Nat} {cs : List CV} {m : Heap} : ExtS [d] β st (fun j => if j = d then b else β j) { st.lay d cs with m := m, mem := true } := by
  refine ⟨[(d, true)], ⟨rfl, by simp, fun k hk => ?_, fun p hp => ?_, fun p hp => ?_⟩⟩
  · have : k ≠ d := fun e => by subst e; simp at hk
    simp [this]
  · by_cases e : p.1 = d
    · exact .inl ⟨true, by simp [e]⟩
    · refine .inr (List.mem_cons_of_mem _ (List.mem_filter.2 ⟨hp, ?_⟩))
      cases hb : Nat.beq p.1 d
      · rfl
      · exact absurd (Nat.eq_of_beq_eq_true hb) e
  · cases hb : qD d p.2
    · exact .inr (.inr (List.mem_filter.2 ⟨hp, by simp [hb]⟩))
    · exact .inr (.inl ⟨d, hb, by simp⟩)
theorem abc {d : Nat} {cs : List CV} (hd : o.dst = some d) (h : HS st fun st => st.layK d cs k)
    (he : ∀ k' : Heap → Prop, Lift.mem st.m k' → Eff P n B (st.E.frm β) (hpOf β st.m st.pv) o (fun u h' => ∃ b m, u = .pointer (some ⟨b, 0, none⟩) ∧ h' = ⟨m, (b, cs.map CV.val) :: (hpOf β st.m st.pv).pv⟩ ∧ MExt st.m m ∧ Lift.mem m k')) :
    Eff2 P n B β st o (fun s st' => HS st' (k s)) := by
  have h' : Lift.mem st.m fun m => k (.pv d 0) { st.lay d cs with m := m, mem := true } := by
    unfold HS at h
    split at h
    · rename_i hm
      intro m' e
      have := h m' e
      unfold St.layK at this
      simp only [hm] at this
      exact this
    · rename_i hm
      unfold St.layK at h
      simp only [hm] at h
      exact h
  intro a w hr next Q hn
  refine he _ h' a w hr.holds.frm hr.inw next Q ?_
  rintro v w' h'' hi ⟨b, m, rfl, rfl, _, hk⟩
  have := hn w' (fun j => if j = d then b else β j) (.pv d 0) { st.lay d cs with m := m, mem := true } (ajw β hr hi) (by rw [hd]; exact akC β) ?_
  · simpa [SV.val] using this
  · show ∀ m', MExt m m' → k (.pv d 0) _
    intro m' e
    exact hk m' e
theorem HS.of_eq {F G : St → Prop} (h : HS st F) (e : ∀ m, F { st with m := m } = G { st with m := m }) : HS st G := by
  unfold HS at h ⊢
  split at h
  · intro m' e'; rw [← e]; exact h m' e'
  · have := e st.m; exact this ▸ h
theorem ain {tbl : List (Ent P)} {hint : Hint} (hT : TTab.Ok P T) (hl : rJ hint o = true) (h : HS st fun st => shE T tbl hint o st k) : Eff2 P n B β st o (fun s st' => HS st' (k s)) := by
  unfold rJ at hl
  split at hl
  · rename_i t x d hop hd
    cases hc : boxC st.E x with
    | none =>
      have : HS st fun _ => False := HS.of_eq h fun m => by simp only [shE, hop, hc]
      unfold HS at this
      split at this
      · exact (this _ (MExt.refl _)).elim
      · exact this.elim
    | some cs =>
      have h1 : HS st fun st => st.layK d cs k := HS.of_eq h fun m => by simp only [shE, hop, hc, eNew, hd, hl]
      obtain ⟨v, e1, e2⟩ := aaz β hc
      exact abc β hd h1 fun k' hk => EffX.boxP hop e1 e2 hk
  · rename_i t d hop hd
    cases hz : T.zero t with
    | none =>
      have : HS st fun _ => False := HS.of_eq h fun m => by simp only [shE, hop, hz]
      unfold HS at this
      split at this
      · exact (this _ (MExt.refl _)).elim
      · exact this.elim
    | some z =>
      have h1 : HS st fun st => st.layK d (z.map ku) k := HS.of_eq h fun m => by simp only [shE, hop, hz, eNew, hd, hl]
      refine abc β hd h1 fun k' hk => ?_
      rw [qC]
      exact EffX.allocP hT hop hz hk
  · cases hl
end
structure Ctx (P : Program) where
  T : TTab
  tbl : List (Ent P)
  hint : Hint
  n : Nat
def fB (ops : List Oper) (j : Nat) : Option Nat :=
  match ops[j]? with
  | some o => o.dst
  | none => none
def letF (hint : Hint) (o : Oper) : Bool :=
  match o.dst with
  | none => false
  | some d => match o.op with
    | .move _ => false
    | .assign _ => memN hint.nmd d || memN hint.mul d
    | _ => memN hint.mul d
def eqB : Bool → Bool → Bool
  | true, true => true
  | false, false => true
  | _, _ => false
theorem am3 {a b : Bool} : eqB a b = true ↔ a = b := by cases a <;> cases b <;> simp [eqB]
def wM {P : Program} (c : Ctx P) (o : Oper) (st : St) (k : SV → St → Prop) : Prop :=
  match abO o.op with
  | true => shE c.T c.tbl c.hint o st k
  | false => shQ c.T (letF c.hint o) o st fun s => k s st
def St.calm (st : St) : St := { st with mem := false }
def St.know (st : St) (t : Nat) (b : Bool) : St := { st with E := (t, .t (.sg (.kb b))) :: st.E, mem := false }
def shL {P : Program} (c : Ctx P) (ops : List Oper) : List Oper → St → (St → Prop) → Prop
  | [], st, k => k st.calm
  | o :: l, st, k => match okD o c.n with
    | false => False
    | true => match o.guard with
      | none => match rJ c.hint o with
        | true => shE c.T c.tbl c.hint o st fun s st' => shL c ops l (st'.put o.dst s) k
        | false => wM c o st.calm fun s st' => shL c ops l (st'.calm.put o.dst s) k
      | some (j, want) => match rJ c.hint o with
        | true => False
        | false => match fB ops j with
          | none => False
          | some t => match st.E.get t with
            | some .un => shL c ops l (st.calm.put o.dst .un) k
            | some (.t (.sg (.kb b))) => match eqB b want with
              | true => wM c o st.calm fun s st' => shL c ops l (st'.calm.put o.dst s) k
              | false => shL c ops l (st.calm.put o.dst .un) k
            | some (.t (.sg (.v (.bool b) _))) =>
              iteB b
                (match eqB true want with
                  | true => wM c o (st.know t true) fun s st' => shL c ops l (st'.calm.put o.dst s) k
                  | false => shL c ops l ((st.know t true).put o.dst .un) k)
                (match eqB false want with
                  | true => wM c o (st.know t false) fun s st' => shL c ops l (st'.calm.put o.dst s) k
                  | false => shL c ops l ((st.know t false).put o.dst .un) k)
            | _ => False
end Go.Lift

namespace Go.Lift
open Go
section
variable {P : Program} {c : Ctx P} {B : Base} {Q : Exit → Act → World → Prop}
theorem ExtS.put {D : List Nat} {β β' : Nat → Nat} {st st' : St} {d : Option Nat} {s : SV} (h : ExtS D β st β' st') (hd : ∀ t, d = some t → t ∈ D) : ExtS D β st β' (st'.put d s) := by
  obtain ⟨pre, h⟩ := h
  refine ⟨pre, ⟨h.dirty, h.laid, h.beta, h.pv, fun p hp => ?_⟩⟩
  rcases h.env p hp with h1 | h1 | h1
  · exact .inl h1
  · exact .inr (.inl h1)
  · cases d with
    | none => exact .inr (.inr h1)
    | some d =>
      by_cases e : p.1 = d
      · exact .inl (by rw [e]; exact hd d rfl)
      · refine .inr (.inr (List.mem_cons_of_mem _ (List.mem_filter.2 ⟨h1, ?_⟩)))
        cases hb : Nat.beq p.1 d
        · rfl
        · exact absurd (Nat.eq_of_beq_eq_true hb) e
theorem ExtS.trans {D1 D2 : List Nat} {β0 β1 β2 : Nat → Nat} {s0 s1 s2 : St} (h : ExtS D1 β0 s0 β1 s1) (k : ExtS D2 β1 s1 β2 s2) : ExtS (D1 ++ D2) β0 s0 β2 s2 := by
  obtain ⟨p1, h⟩ := h
  obtain ⟨p2, k⟩ := k
  refine ⟨p2 ++ p1, ⟨by rw [k.dirty, h.dirty, List.append_assoc], fun j hj => ?_, fun j hj => ?_, fun p hp => ?_, fun p hp => ?_⟩⟩
  · rcases List.mem_append.1 hj with h1 | h1
    · exact List.mem_append_right _ (k.laid j h1)
    · exact List.mem_append_left _ (h.laid j h1)
  · rw [k.beta j (fun e => hj (List.mem_append_left _ e)), h.beta j (fun e => hj (List.mem_append_right _ e))]
  · rcases h.pv p hp with ⟨b, h1⟩ | h1
    · exact .inl ⟨b, List.mem_append_right _ h1⟩
    · rcases k.pv p h1 with ⟨b, h2⟩ | h2
      · exact .inl ⟨b, List.mem_append_left _ h2⟩
      · exact .inr h2
  · rcases h.env p hp with h1 | ⟨j, h1, h2⟩ | h1
    · exact .inl (List.mem_append_left _ h1)
    · exact .inr (.inl ⟨j, h1, List.mem_append_right _ h2⟩)
    · rcases k.env p h1 with h2 | ⟨j, h2, h3⟩ | h2
      · exact .inl (List.mem_append_right _ h2)
      · exact .inr (.inl ⟨j, h2, List.mem_append_left _ h3⟩)
      · exact .inr (.inr h2)
theorem ExtS.mono {D1 D2 : List Nat} {β0 β1 : Nat → Nat} {s0 s1 : St} (h : ExtS D1 β0 s0 β1 s1) (hs : ∀ x ∈ D1, x ∈ D2) : ExtS D2 β0 s0 β1 s1 := by
  obtain ⟨p, h⟩ := h
  refine ⟨p, ⟨h.dirty, fun k hk => hs _ (h.laid k hk), h.beta, h.pv, fun p hp => ?_⟩⟩
  rcases h.env p hp with h1 | h1
  · exact .inl (hs _ h1)
  · exact .inr h1
theorem ExtS.more {D : List Nat} {β0 β1 : Nat → Nat} {s0 s0' s1 s1' : St} (h : ExtS D β0 s0 β1 s1) (h1 : s0'.dirty = s0.dirty) (h2 : s0'.pv = s0.pv) (h3 : ∀ p ∈ s0'.E, p ∈ s0.E) (h4 : s1'.dirty = s1.dirty) (h5 : s1'.pv = s1.pv) (h6 : ∀ p ∈ s1.E, p ∈ s1'.E) : ExtS D β0 s0' β1 s1' := by
  obtain ⟨p, h⟩ := h
  refine ⟨p, ⟨by rw [h4, h1, h.dirty], h.laid, h.beta, fun q hq => ?_, fun q hq => ?_⟩⟩
  · rw [h5]; exact h.pv q (h2 ▸ hq)
  · rcases h.env q (h3 q hq) with g | g | g
    · exact .inl g
    · exact .inr (.inl g)
    · exact .inr (.inr (h6 q g))
variable {β : Nat → Nat} {st : St} {a : Act} {w : World} {o : Oper} {n : Nat}
theorem Real.calm (h : Real n B β st a w) : Real n B β st.calm a w := ⟨h.holds, h.inw, h.nd⟩
theorem Real.put {d : Option Nat} {s : SV} {v : Value} (h : Real n B β st a w) (hd : ∀ t, d = some t → t < n) (hv : v = s.val β) : Real n B β (st.put d s) (a.put d v) w := ⟨h.holds.put hd hv, h.inw, h.nd⟩
theorem Real.know {t : Nat} {b b' : Bool} {sm : Bool} (h : Real n B β st a w) (ht : st.E.get t = some (.t (.sg (.v (.bool b) sm)))) (e : b = b') : Real n B β (st.know t b') a w :=
  ⟨h.holds.more ht (by subst e; rfl), h.inw, h.nd⟩
theorem akp (h : okD o n = true) : ∀ t, o.dst = some t → t < n := by
  intro t ht
  unfold okD at h
  rw [ht] at h
  simpa [Nat.blt_eq] using h
theorem aeV {k : SV → St → Prop} (hT : TTab.Ok P c.T) (hl : rJ c.hint o = false) (h : wM c o st k) : Eff2 P n B β st o k := by
  unfold wM at h
  split at h
  · exact ai0 β hT hl h
  · obtain ⟨s, hk, hq⟩ := mI (n := n) β hT h
    intro a w hr next Q hn
    unfold Oper.wp
    rw [hq a w hr.holds hr.inw.rel]
    exact hn w β s st hr (ExtS.refl _ β st) hk
theorem wD {ops : List Oper} {j t : Nat} (hd : fB ops j = some t) : ((ops.toArray)[j]?).bind (·.dst) = some t := by
  unfold fB at hd
  split at hd
  · rename_i o ho
    simp [ho, hd]
  · cases hd
theorem wv {ops : List Oper} {j t : Nat} {b : Bool} (hg : o.guard = some (j, b)) (hd : fB ops j = some t) (hv : a.tmps[t]? = some (.bool b)) : Region.wanted o (yielded ops.toArray a.tmps) = true := by
  unfold Region.wanted
  rw [hg]
  have hy : yielded ops.toArray a.tmps j = some b := by
    unfold yielded
    rw [wD hd]
    simp [hv]
  simp [hy]
theorem qx {ops : List Oper} {j t : Nat} {b : Bool} {v : Value} (hg : o.guard = some (j, b)) (hd : fB ops j = some t) (hv : a.tmps[t]? = some v) (hne : v ≠ .bool b) : Region.wanted o (yielded ops.toArray a.tmps) = false := by
  unfold Region.wanted
  rw [hg]
  have hy : yielded ops.toArray a.tmps j ≠ some b := by
    unfold yielded
    rw [wD hd]
    simp only [Option.bind_some, hv]
    intro hc
    split at hc
    · rename_i heq
      simp only [Option.some.injEq] at heq hc
      subst hc; exact hne heq
    · cases hc
  simpa using hy
theorem wk {ops : Array Oper} {l : List Oper} (hw : Region.wanted o (yielded ops a.tmps) = true) (h : o.wp P a w (wpList P ops Q l) Q) : wpList P ops Q (o :: l) a w := by
  unfold wpList
  rw [if_pos hw]
  exact .inl h
theorem abI {ops : Array Oper} {l : List Oper} (hw : Region.wanted o (yielded ops a.tmps) = false) (h : wpList P ops Q l (a.put o.dst undef) w) : wpList P ops Q (o :: l) a w := by
  unfold wpList
  rw [if_neg (by simp [hw])]
  exact h
def uC (l : List Oper) : List Nat :=
  match l with
  | [] => []
  | o :: r => o.dst.toList ++ uC r
theorem HS.calm {st : St} {F : St → Prop} (h : HS st F) : F st := by
  unfold HS at h
  split at h
  · exact h st.m (MExt.refl _)
  · exact h
theorem HS.of_calm {F : St → Prop} (h : F st.calm) : HS st.calm F := h
theorem HS.put {d : Option Nat} {s : SV} {F : St → Prop} (h : HS st fun st => F (st.put d s)) : HS (st.put d s) F := by
  unfold HS at h ⊢
  exact h
theorem ahM {ops : List Oper} (hT : TTab.Ok P c.T) : ∀ (l : List Oper) {β : Nat → Nat} {st : St} {k : St → Prop} {a : Act} {w : World}, HS st (fun st => shL c ops l st k) → Real c.n B β st a w →
    (∀ β' st' a w, Real c.n B β' st' a w → ExtS (uC l) β st β' st' → k st' → Q .normal a w) → wpList P ops.toArray Q l a w := by
  intro l
  induction l with
  | nil =>
    intro β st k a w h hr hQ
    exact hQ β st.calm a w hr.calm ⟨[], ⟨rfl, by simp, fun _ _ => rfl, fun p hp => .inr hp, fun p hp => .inr (.inr hp)⟩⟩ h.calm
  | cons o l ih =>
    intro β st k a w h hr hQ
    have h0 := h.calm
    unfold shL at h0
    split at h0
    · exact h0.elim
    rename_i hok
    have hlt := akp hok
    have run : ∀ {st0 : St}, Real c.n B β st0 a w → (∀ p ∈ st.E, p ∈ st0.E) → st0.pv = st.pv → st0.dirty = st.dirty → rJ c.hint o = false → wM c o st0 (fun s st' => shL c ops l (st'.calm.put o.dst s) k) → o.wp P a w (wpList P ops.toArray Q l) Q := by
      intro st0 hr0 hE hpv hdi hl hs
      refine aeV (n := c.n) (B := B) (β := β) hT hl hs a w hr0 _ _ fun w' β' s st' hr' he hk => ?_
      refine ih (st := st'.calm.put o.dst s) (k := k) (HS.put (HS.of_calm (F := fun st => shL c ops l (st.put o.dst s) k) hk)) (hr'.calm.put hlt rfl) fun β2 st2 a2 w2 hr2 he2 hk2 => ?_
      refine hQ β2 st2 a2 w2 hr2 ?_ hk2
      refine ExtS.trans (s1 := st'.calm.put o.dst s) (ExtS.put ?_ fun t ht => by simp [ht]) he2
      exact he.more hdi.symm hpv.symm hE rfl rfl fun p hp => hp
    have skip : ∀ {st0 : St}, Real c.n B β st0 a w → (∀ p ∈ st.E, p ∈ st0.E) → st0.pv = st.pv → st0.dirty = st.dirty → st0.mem = false → shL c ops l (st0.put o.dst .un) k → wpList P ops.toArray Q l (a.put o.dst undef) w := by
      intro st0 hr0 hE hpv hdi hm hs
      refine ih (st := st0.put o.dst .un) (k := k) (HS.put (by unfold HS; rw [hm]; exact hs)) (hr0.put hlt rfl) fun β2 st2 a2 w2 hr2 he2 hk2 => ?_
      refine hQ β2 st2 a2 w2 hr2 ?_ hk2
      refine ExtS.trans (s1 := st0.put o.dst .un) (ExtS.put ?_ fun t ht => by simp [ht]) he2
      exact (ExtS.refl o.dst.toList β st0).more hdi.symm hpv.symm hE rfl rfl fun p hp => hp
    have cE : ∀ p ∈ st.E, p ∈ st.calm.E := fun p hp => hp
    split at h0
    · rename_i hg
      have hw : Region.wanted o (yielded ops.toArray a.tmps) = true := by simp [Region.wanted, hg]
      split at h0
      · rename_i hl
        refine wk hw ?_
        have h1 : HS st fun st => shE c.T c.tbl c.hint o st fun s st' => shL c ops l (st'.put o.dst s) k := by
          refine HS.of_eq h fun m => ?_
          show shL c ops (o :: l) { st with m := m } k = shE c.T c.tbl c.hint o { st with m := m } fun s st' => shL c ops l (st'.put o.dst s) k
          conv => lhs; unfold shL
          simp only [hok, hg, hl]
        refine ain (n := c.n) (B := B) β hT hl h1 a w hr _ _ fun w' β' s st' hr' he hk => ?_
        refine ih (st := st'.put o.dst s) (k := k) (HS.put hk) (hr'.put hlt rfl) fun β2 st2 a2 w2 hr2 he2 hk2 => ?_
        exact hQ β2 st2 a2 w2 hr2 (ExtS.trans (he.put fun t ht => by simp [ht]) he2) hk2
      · rename_i hl
        exact wk hw (run hr.calm cE rfl rfl hl h0)
    · rename_i j want hg
      split at h0
      · exact h0.elim
      · rename_i hl
        split at h0
        · exact h0.elim
        · rename_i t hd
          split at h0
          · rename_i ht
            have hv := hr.holds.at' _ (Env.get_mem ht)
            exact abI (qx hg hd hv (by simp [SV.val, undef])) (skip hr.calm cE rfl rfl rfl h0)
          · rename_i b ht
            have hv := hr.holds.at' _ (Env.get_mem ht)
            split at h0
            · rename_i he
              have he := am3.1 he
              subst he
              exact wk (wv hg hd hv) (run hr.calm cE rfl rfl hl h0)
            · rename_i he
              refine abI (qx hg hd hv ?_) (skip hr.calm cE rfl rfl rfl h0)
              intro e
              have : b = want := by simpa [SV.val, TV.val, CV.val] using e
              rw [this] at he
              cases want <;> simp [eqB] at he
          · rename_i b sm ht
            have hv := hr.holds.at' _ (Env.get_mem ht)
            have kE : ∀ b', ∀ p ∈ st.E, p ∈ (st.know t b').E := fun b' p hp => List.mem_cons_of_mem _ hp
            have key : ∀ b', b = b' → (match eqB b' want with
                  | true => wM c o (st.know t b') fun s st' => shL c ops l (st'.calm.put o.dst s) k
                  | false => shL c ops l ((st.know t b').put o.dst .un) k) → wpList P ops.toArray Q (o :: l) a w := by
              intro b' e h1
              subst e
              split at h1
              · rename_i he
                have he := am3.1 he
                subst he
                exact wk (wv hg hd hv) (run (hr.know ht rfl) (kE _) rfl rfl hl h1)
              · rename_i he
                refine abI (qx hg hd hv ?_) (skip (hr.know ht rfl) (kE _) rfl rfl rfl h1)
                intro e
                have : b = want := by simpa [SV.val, TV.val, CV.val] using e
                rw [this] at he
                cases want <;> simp [eqB] at he
            cases hb : b
            · exact key false hb (h0.2 hb)
            · exact key true hb (h0.1 hb)
          · exact h0.elim
end
end Go.Lift

/-
  Laws that the proof of this claim's statement leans on, each proved under the conditions that it states.
-/
import Derived.Test.YtmcfhickfcmkkaaGreatDoorFwC
set_option linter.unusedVariables false
set_option linter.unusedSimpArgs false
namespace Go.Lift
open Go
theorem Y {α : Type} {a : α} : a = a := rfl
section
variable {P : Program} {T : TTab} {n : Nat} {L : Frm} {h : Hp} {o : Oper} {B : Base} {ops : Array Oper} {Q : Exit → Act → World → Prop}
theorem pu (hT : TTab.Ok P T) (k : Nat) {L' : Frm} {l l' : List Oper} (hr : tN T n k L l = some (L', l')) (H : AtL P n B ops Q L' h l') : AtL P n B ops Q L h l := AtL.pures hT k _ _ _ _ hr H
theorem ng {y : Code} {R : Exit → Act → World → Prop} (H : AtC P n B Q L h y) : AtL P n B ops (Exit.then (y.wp P Q) R) L h [] := AtL.nil (AtE.then_n (AtE.go H))
theorem tg {y : Code} {R : Exit → Act → World → Prop} (H : AtC P n B Q L h y) : AtE n B (Exit.then (y.wp P Q) R .normal) L h := AtE.then_n (AtE.go H)
def nfB (ops : Array Oper) (n : Nat) (L : Frm) (o : Oper) : Bool := match o.guard with
  | none => false
  | some (j, c) => match (ops[j]?).bind (·.dst) with
    | none => false
    | some t => match L.get t with
      | some (.bool b) => match b, c with
        | true, false => kG { o with guard := none } n
        | false, true => kG { o with guard := none } n
        | _, _ => false
      | _ => false
theorem nf {l : List Oper} (hb : nfB ops n L o = true) (H : AtL P n B ops Q (L.put o.dst undef) h l) : AtL P n B ops Q L h (o :: l) := by
  unfold nfB at hb
  split at hb
  · cases hb
  · rename_i j c hg
    split at hb
    · cases hb
    · rename_i t hj
      split at hb
      · rename_i b hv
        split at hb
        · exact AtL.noF hg hj hv (by decide) hb H
        · exact AtL.noF hg hj hv (by decide) hb H
        · cases hb
      · cases hb
def ysB (ops : Array Oper) (L : Frm) (o : Oper) : Bool := match o.guard with
  | none => false
  | some (j, c) => match (ops[j]?).bind (·.dst) with
    | none => false
    | some t => match L.get t with
      | some (.bool b) => match b, c with
        | true, true => true
        | false, false => true
        | _, _ => false
      | _ => false
theorem ys {l : List Oper} (hb : ysB ops L o = true) (H : AtL P n B ops Q L h ({ o with guard := none } :: l)) : AtL P n B ops Q L h (o :: l) := by
  unfold ysB at hb
  split at hb
  · cases hb
  · rename_i j c hg
    split at hb
    · cases hb
    · rename_i t hj
      split at hb
      · rename_i b hv
        split at hb
        · exact AtL.yes hg hj hv H
        · exact AtL.yes hg hj hv H
        · cases hb
      · cases hb
def opB (ops : List Oper) (n i : Nat) : Option Oper := match ops[i]? with
  | none => none
  | some o => match o.guard with
    | some _ => none
    | none => match okD o n with
      | true => some o
      | false => none
theorem rS {ops : List Oper} {i : Nat} (hb : opB ops n i = some o) : ops[i]? = some o ∧ o.guard = none ∧ okD o n = true := by
  unfold opB at hb
  split at hb
  · cases hb
  · rename_i o' ho
    split at hb
    · cases hb
    · rename_i hg
      split at hb
      · rename_i hd; cases hb; exact ⟨ho, hg, hd⟩
      · cases hb
def qpB (T : TTab) (n : Nat) (ops : List Oper) (V : Frm) (i : Nat) : Option (Value × Value) := match opB ops n i with
  | none => none
  | some o => match kX T (V.only (o.looksAt ops.toArray)) o.op with
    | none => none
    | some v => match V.getO o.dst v with
      | none => none
      | some u => some (v, u)
theorem qp {ops : List Oper} {V : Frm} {i : Nat} {r : List Nat} {v : Value} (hT : TTab.Ok P T) (hb : qpB T n ops V i = some (v, v)) (h2 : QAll P n ops V h r) : QAll P n ops V h (i :: r) := by
  refine QAll.cons ?_ h2
  unfold qpB at hb
  split at hb
  · cases hb
  · rename_i o ho
    obtain ⟨h3, h4, h5⟩ := rS ho
    split at hb
    · cases hb
    · rename_i u hu
      split at hb
      · cases hb
      · rename_i u' hu'
        obtain ⟨rfl, rfl⟩ := Prod.mk.inj (Option.some.inj hb)
        exact QOp.p hT h3 h4 hu h5 hu'
theorem qq {ops : List Oper} {V : Frm} {i : Nat} {r : List Nat} {v : Value} (hb : opB ops n i = some o) (hq : Quiet1 P n (V.only (o.looksAt ops.toArray)) h o v) (hv : V.getO o.dst v = some v) (h2 : QAll P n ops V h r) : QAll P n ops V h (i :: r) :=
  QAll.cons (QOp.q (rS hb).1 (rS hb).2.1 hq (rS hb).2.2 hv) h2
def lPf (T : TTab) (L : Frm) (h : Hp) (o : Oper) (i : Nat) : Option (Value × Nat × Nat) := match o.op with
  | .load t x => match lN T t with
    | false => none
    | true => match L.ev x with
      | some (.pointer (some a)) => match a.spot with
        | some _ => none
        | none => match h.pv[i]? with
          | none => none
          | some (b, cs) => match cs[a.off]? with
            | none => none
            | some v => some (v, a.block, b)
      | _ => none
  | _ => none
theorem lP (hT : TTab.Ok P T) (i : Nat) {v : Value} {b : Nat} (hb : lPf T L h o i = some (v, b, b)) : Quiet1 P n L h o v := by
  unfold lPf at hb
  split at hb
  · rename_i t x hop
    split at hb
    · cases hb
    · rename_i ht
      split at hb
      · rename_i a hx
        split at hb
        · cases hb
        · rename_i hs
          split at hb
          · cases hb
          · rename_i b' cs hp
            split at hb
            · cases hb
            · rename_i u hv
              simp only [Option.some.injEq, Prod.mk.injEq] at hb
              obtain ⟨rfl, h1, rfl⟩ := hb
              exact Quiet1.loadP hT hop ht hx (by rw [h1]; exact hp) hs hv
      · cases hb
  · cases hb
theorem r1 {α : Type} {toV : α → Value} {S : α → Heap → Prop} {fn : Func} {v : Value} {r : α} (t : Nat) (hr : fn.results = [ResultVar.tmp t].toArray) (hv : L.get t = some v) (he : toV r = agL [v]) (hS : S r h.m) :
    AtE n B (bodyPost P fn (Post B toV S) .ret) L h := AtE.retN (rs := [.tmp t]) hr (ResAll.cons (ResAt.tmp hv) ResAll.nil) he hS
theorem sR {id : Nat} {l : List Oper} {y : Code} (H : AtL P n B l.toArray (Exit.then (y.wp P Q) Q) L h l) : AtC P n B Q L h (.seq (.region id l.toArray false) y) := AtC.seqR H
theorem qn {ops : List Oper} {V : Frm} {i j t : Nat} {b c : Bool} {r : List Nat} (ho : ops[i]? = some o) (hg : o.guard = some (j, c)) (hj : (ops[j]?).bind (·.dst) = some t) (hv' : V.get t = some (.bool b)) (hbc : b ≠ c) (hd : okD o n = true) (hv : V.getO o.dst undef = some undef) (h2 : QAll P n ops V h r) : QAll P n ops V h (i :: r) := QAll.cons (QOp.no ho hg hj hv' hbc hd hv) h2
end
section
variable {P : Program} {T : TTab} {n : Nat} {L : Frm} {m0 : Heap} {pv0 : List (Nat × List Value)} {o : Oper} {B : Base}
theorem cl {α : Type} {f : FuncId} {args : Array Operand} {tys : Array TypeId} {vs : List Value} {toV : α → Value} {S : α → Heap → Prop}
    (sh : Heap → Prop) (H0 : sh m0) (hop : o.op = .call ⟨.value (.func f), args, tys⟩) (hcall : ∀ vs w, (callFunc f vs).run P w = .ok (.enter f vs) w)
    (hvs : jt L args.toList = some vs) (hl : ∀ w m, Rel ⟨m, []⟩ w.heap → sh m → Calls P f vs.toArray w (Post ⟨w, m⟩ toV S)) :
    Eff P n B L ⟨m0, pv0⟩ o (fun v h' => ∃ r m, v = toV r ∧ h' = ⟨m, pv0⟩ ∧ S r m) := EffX.call hop hcall hvs sh H0 hl
end
end Go.Lift

namespace Go.Lift
open Go
def Lf {α : Type} (P : Program) (f : FuncId) (args : List Value) (toV : α → Value) (F : Heap → (α → Heap → Prop) → Prop) : Prop :=
  ∀ (w : World) (m : Heap), Rel ⟨m, []⟩ w.heap → ∀ S, F m S → Calls P f args.toArray w (Post ⟨w, m⟩ toV S)
theorem Lf.go {α : Type} {P : Program} {f : FuncId} {fn : Func} {c : Code} {args : List Value} {toV : α → Value} {F : Heap → (α → Heap → Prop) → Prop} {n : Nat} {M : Frm}
    (hf : P.funcs[f]? = some fn) (hn : fn.ntmps = n) (hb : fn.body = some c) (hle : Nat.ble args.length n = true) (ts : List Nat) (hp : (Frm.ofArgs args 0).pick ts = some M)
    (h : ∀ (w : World) m S, F m S → AtC P n ⟨w, m⟩ (bodyPost P fn (Post ⟨w, m⟩ toV S)) M ⟨m, []⟩ c) : Lf P f args toV F :=
  fun w m hr S H => Calls.lift hf hb hn (Nat.le_of_ble_eq_true hle) hr (F m S) H fun H => AtC.pick hp (h w m S H)
section
variable {P : Program} {T : TTab} {n : Nat} {L : Frm} {m0 : Heap} {pv0 : List (Nat × List Value)} {o : Oper} {B : Base} {ops : Array Oper} {Q : Exit → Act → World → Prop} {l : List Oper} {h : Hp}
def clf (L : Frm) (n : Nat) (o : Oper) : Option (FuncId × List Value) := match kG o n with
  | false => none
  | true => match o.op with
    | .call c => match c with
      | ⟨.value (.func f), args, _⟩ => match jt L args.toList with
        | some vs => some (f, vs)
        | none => none
      | _ => none
    | _ => none
theorem af5 {f : FuncId} {vs : List Value} (hb : clf L n o = some (f, vs)) : kG o n = true ∧ ∃ args tys, o.op = .call ⟨.value (.func f), args, tys⟩ ∧ jt L args.toList = some vs := by
  unfold clf at hb
  split at hb
  · cases hb
  · rename_i hd
    split at hb
    · rename_i c hop
      split at hb
      · rename_i f' args tys
        split at hb
        · rename_i vs' hv
          simp only [Option.some.injEq, Prod.mk.injEq] at hb
          obtain ⟨rfl, rfl⟩ := hb
          exact ⟨hd, args, tys, hop, hv⟩
        · cases hb
      · cases hb
    · cases hb
theorem lc {α : Type} {f : FuncId} {vs : List Value} {toV : α → Value} {F : Heap → (α → Heap → Prop) → Prop} {S : α → Heap → Prop} (hl : Lf P f vs toV F) (H : F m0 S) (hc : ∀ vs w, (callFunc f vs).run P w = .ok (.enter f vs) w) (hb : clf L n o = some (f, vs))
    (next : ∀ r m, S r m → AtL P n B ops Q (L.put o.dst (toV r)) ⟨m, pv0⟩ l) : AtL P n B ops Q L ⟨m0, pv0⟩ (o :: l) := by
  obtain ⟨hd, args, tys, hop, hv⟩ := af5 hb
  refine AtL.e hd (EffX.call hop hc hv (fun h => F h S) H fun w m hr hw => hl w m hr S hw) ?_
  rintro _ _ ⟨r, m, rfl, rfl, H⟩
  exact next r m H
def z9 (T : TTab) (n : Nat) (ops : Array Oper) : Nat → Frm → List Oper → Option (Frm × List Oper)
  | 0, L, l => some (L, l)
  | _ + 1, _, [] => none
  | k + 1, L, o :: l => match o.guard with
    | none => match kG o n with
      | false => none
      | true => match kX T L o.op with
        | some v => z9 T n ops k (L.put o.dst v) l
        | none => none
    | some (j, c) => match (ops[j]?).bind (·.dst) with
      | none => none
      | some t => match L.get t with
        | some (.bool b) => match b, c with
          | true, true => z9 T n ops k L ({ o with guard := none } :: l)
          | false, false => z9 T n ops k L ({ o with guard := none } :: l)
          | true, false => match kG { o with guard := none } n with
            | true => z9 T n ops k (L.put o.dst undef) l
            | false => none
          | false, true => match kG { o with guard := none } n with
            | true => z9 T n ops k (L.put o.dst undef) l
            | false => none
        | _ => none
theorem pg (hT : TTab.Ok P T) : ∀ (k : Nat) {L L' : Frm} {l l' : List Oper}, z9 T n ops k L l = some (L', l') → AtL P n B ops Q L' h l' → AtL P n B ops Q L h l := by
  intro k
  induction k with
  | zero =>
    intro L L' l l' hr H
    simp only [z9, Option.some.injEq, Prod.mk.injEq] at hr
    obtain ⟨rfl, rfl⟩ := hr
    exact H
  | succ k ih =>
    intro L L' l l' hr H
    cases l with
    | nil => simp [z9] at hr
    | cons o l =>
      unfold z9 at hr
      split at hr
      · split at hr
        · cases hr
        · rename_i hd
          split at hr
          · rename_i v hv
            exact AtL.q hd (Quiet1.pure hT hv) (ih hr H)
          · cases hr
      · rename_i j c hg
        split at hr
        · cases hr
        · rename_i t hj
          split at hr
          · rename_i b hv
            split at hr
            · exact AtL.yes hg hj hv (ih hr H)
            · exact AtL.yes hg hj hv (ih hr H)
            · split at hr
              · rename_i hd
                exact AtL.noF hg hj hv (by decide) hd (ih hr H)
              · cases hr
            · split at hr
              · rename_i hd
                exact AtL.noF hg hj hv (by decide) hd (ih hr H)
              · cases hr
          · cases hr
theorem nk {x : Operand} {p : Option Addr} {k : Addr → Prop} (H : ah p k) (hd : kG o n = true) (hop : o.op = .nilCheck x) (hx : L.ev x = some (.pointer p)) (next : ∀ a, k a → AtL P n B ops Q (L.put o.dst (.pointer (some a))) h l) : AtL P n B ops Q L h (o :: l) := by
  obtain ⟨a, hp, H⟩ := H
  exact AtL.q hd (Quiet1.nilChk hop hx hp) (next a H)
theorem ld {α : Type} {toV : α → Value} {t : Nat} {x : Operand} {a : Addr} {k : α → Prop} (hT : TTab.Ok P T) (H : Lift.load toV a m0 k) (hd : kG o n = true) (hop : o.op = .load t x) (ht : lN T t = true) (hx : L.ev x = some (.pointer (some a)))
    (next : ∀ v, k v → AtL P n B ops Q (L.put o.dst (toV v)) ⟨m0, pv0⟩ l) : AtL P n B ops Q L ⟨m0, pv0⟩ (o :: l) := by
  obtain ⟨v, hc, H⟩ := H
  exact AtL.q hd (Quiet1.load hT hop ht hx hc) (next v H)
theorem lds {α : Type} {toC : α → List Value} {t s : Nat} {x : Operand} {a : Addr} {k : α → Prop} (hT : TTab.Ok P T) (H : cg toC s a m0 k) (hd : kG o n = true) (hop : o.op = .load t x) (ht : oL T t = true) (hs : T.size t = some s) (hx : L.ev x = some (.pointer (some a)))
    (next : ∀ v, k v → AtL P n B ops Q (L.put o.dst (.agg (toC v).toArray)) ⟨m0, pv0⟩ l) : AtL P n B ops Q L ⟨m0, pv0⟩ (o :: l) := by
  obtain ⟨v, hc, H⟩ := H
  exact AtL.q hd (Quiet1.loadS hT hop ht hs hx hc) (next v H)
theorem ix {t e sz : Nat} {x i : Operand} {s : Sl} {kd : IntKind} {j : Int} {k : Addr → Prop} (hT : TTab.Ok P T) (H : Lift.idxS s j sz k) (hd : kG o n = true) (hop : o.op = .indexAddr t x i) (ht : T.desc t = some (.slice e)) (hs : T.size e = some sz) (hx : L.ev x = some (.slice s.a s.len s.cap)) (hi : L.ev i = some (.int kd j))
    (next : ∀ a, k a → AtL P n B ops Q (L.put o.dst (.pointer (some a))) h l) : AtL P n B ops Q L h (o :: l) := by
  obtain ⟨a, h1, h2, H⟩ := H
  exact AtL.q hd (Quiet1.idxS hT hop ht hs hx hi h1 h2) (next _ H)
theorem bx {t : Nat} {x : Operand} {v : Value} {k : Heap → Prop} (cs : List Value) (H : Lift.mem m0 k) (hd : kG o n = true) (hop : o.op = .box t x) (hx : L.ev x = some v) (hcs : v.cells = cs.toArray)
    (next : ∀ b m, Lift.mem m k → AtL P n B ops Q (L.put o.dst (.pointer (some ⟨b, 0, none⟩))) ⟨m, (b, cs) :: pv0⟩ l) : AtL P n B ops Q L ⟨m0, pv0⟩ (o :: l) := by
  refine AtL.e hd (EffX.boxP hop hx hcs H) ?_
  rintro _ _ ⟨b, m, rfl, rfl, _, H⟩
  exact next b m H
theorem al {t : Nat} {k : Heap → Prop} (hT : TTab.Ok P T) (cs : List Value) (H : Lift.mem m0 k) (hd : kG o n = true) (hop : o.op = .alloc t) (hz : T.zero t = some cs)
    (next : ∀ b m, Lift.mem m k → AtL P n B ops Q (L.put o.dst (.pointer (some ⟨b, 0, none⟩))) ⟨m, (b, cs) :: pv0⟩ l) : AtL P n B ops Q L ⟨m0, pv0⟩ (o :: l) := by
  refine AtL.e hd (EffX.allocP hT hop hz H) ?_
  rintro _ _ ⟨b, m, rfl, rfl, _, H⟩
  exact next b m H
theorem sp {t s : Nat} {x y : Operand} {a : Addr} {vs cs : List Value} (hT : TTab.Ok P T) (i : Nat) (qv : List (Nat × List Value)) (hop : o.op = .store t x y) (hs : T.size t = some s) (hx : L.ev x = some (.pointer (some a))) (hy : L.ev y = some (.agg vs.toArray)) (hl : vs.length = s) (ho : bT vs = true) (hp : pv0[i]? = some (a.block, cs)) (hsp : a.spot = none) (hle : Nat.ble (a.off + s) cs.length = true) (hq : pv0.set i (a.block, jq cs a.off vs) = qv) (hd : kG o n = true)
    (next : ∀ v, AtL P n B ops Q (L.put o.dst v) ⟨m0, qv⟩ l) : AtL P n B ops Q L ⟨m0, pv0⟩ (o :: l) := by
  refine AtL.e hd (EffX.storeSP hT hop hs hx hy hl ho hp hsp hle hq) ?_
  rintro v _ rfl
  exact next v
theorem eo {ops : List Oper} {E : List Nat} {A G : List (List Nat)} {D : List Nat} {V : Frm} {k i : Nat} {K : Value → Hp → Prop} (hb : opB ops n i = some o) (he : Eff P n B (V.only (o.looksAt ops.toArray)) h o K)
    (H : ∀ v h', K v h' → ru P n B Q ops E A G k D V i o v h') : EAll P n B Q ops E A G k D V h [i] := by
  obtain ⟨h1, h2, h3⟩ := rS hb
  exact EAll.cons (EOp.e h1 h2 h3 he H) EAll.nil
def clE (ops : List Oper) (n i : Nat) (V : Frm) : Option (Oper × FuncId × List Value) := match opB ops n i with
  | none => none
  | some o => match clf (V.only (o.looksAt ops.toArray)) n o with
    | some (f, vs) => some (o, f, vs)
    | none => none
theorem ec {α : Type} {ops : List Oper} {E : List Nat} {A G : List (List Nat)} {D : List Nat} {V : Frm} {k i : Nat} {f : FuncId} {vs : List Value} {toV : α → Value} {F : Heap → (α → Heap → Prop) → Prop} {S : α → Heap → Prop} (hl : Lf P f vs toV F) (H : F m0 S) (hc : ∀ vs w, (callFunc f vs).run P w = .ok (.enter f vs) w) (hb : clE ops n i V = some (o, f, vs))
    (next : ∀ r m, S r m → ru P n B Q ops E A G k D V i o (toV r) ⟨m, pv0⟩) : EAll P n B Q ops E A G k D V ⟨m0, pv0⟩ [i] := by
  unfold clE at hb
  split at hb
  · cases hb
  · rename_i o' ho
    split at hb
    · rename_i f' vs' hcl
      simp only [Option.some.injEq, Prod.mk.injEq] at hb
      obtain ⟨rfl, rfl, rfl⟩ := hb
      obtain ⟨_, args, tys, hop, hv⟩ := af5 hcl
      refine eo ho (EffX.call hop hc hv (fun h => F h S) H fun w m hr hw => hl w m hr S hw) ?_
      rintro _ _ ⟨r, m, rfl, rfl, H⟩
      exact next r m H
    · cases hb
def lSf (T : TTab) (L : Frm) (h : Hp) (o : Oper) (i : Nat) : Option (List Value × Nat × Nat) := match o.op with
  | .load t x => match oL T t with
    | false => none
    | true => match T.size t with
      | none => none
      | some s => match L.ev x with
        | some (.pointer (some a)) => match a.spot with
          | some _ => none
          | none => match h.pv[i]? with
            | none => none
            | some (b, cs) => match Nat.beq ((cs.drop a.off).take s).length s with
              | false => none
              | true => some ((cs.drop a.off).take s, a.block, b)
        | _ => none
  | _ => none
theorem lS2 (hT : TTab.Ok P T) (i : Nat) (l : List Value) {b : Nat} (hb : lSf T L h o i = some (l, b, b)) : Quiet1 P n L h o (.agg l.toArray) := by
  unfold lSf at hb
  split at hb
  · rename_i t x hop
    split at hb
    · cases hb
    · rename_i ht
      split at hb
      · cases hb
      · rename_i s hs
        split at hb
        · rename_i a hx
          split at hb
          · cases hb
          · rename_i hsp
            split at hb
            · cases hb
            · rename_i b' cs hp
              split at hb
              · cases hb
              · rename_i hl
                simp only [Option.some.injEq, Prod.mk.injEq] at hb
                obtain ⟨rfl, h1, rfl⟩ := hb
                exact Quiet1.loadSP hT hop ht hs hx (by rw [h1]; exact hp) hsp rfl (Nat.eq_of_beq_eq_true hl)
        · cases hb
  · cases hb
def pkf (L : Frm) (h : Hp) (ts is : List Nat) : Option (Frm × Heap × List (Nat × List Value)) := match L.pick ts with
  | none => none
  | some M => match decide is.Nodup with
    | false => none
    | true => match lK h.pv is with
      | none => none
      | some qv => some (M, h.m, qv)
theorem pkz {B : Base} {M : Frm} {K : Act → World → Prop} {R : Exit → Act → World → Prop} {m : Heap} {qv : List (Nat × List Value)} (H : AtE n B K M ⟨m, qv⟩) (ts is : List Nat) (hb : pkf L h ts is = some (M, m, qv)) : AtE n B (Exit.then K R .normal) L h := by
  unfold pkf at hb
  split at hb
  · cases hb
  · rename_i M' hp
    split at hb
    · cases hb
    · rename_i hd
      split at hb
      · cases hb
      · rename_i qv' hq
        simp only [Option.some.injEq, Prod.mk.injEq] at hb
        obtain ⟨rfl, rfl, rfl⟩ := hb
        exact AtE.then_n (H.pickP rfl hp (of_decide_eq_true hd) hq)
end
abbrev ra := List.range
def nm : Nat → List Value → Frm
  | _, [] => []
  | k, v :: r => (k, v) :: nm (k + 1) r
def rl : List (List Nat × Nat) → List (List Nat)
  | [] => []
  | (l, n) :: r => List.replicate n l ++ rl r
end Go.Lift

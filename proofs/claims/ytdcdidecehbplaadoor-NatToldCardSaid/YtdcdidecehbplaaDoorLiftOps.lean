/- Laws that the proof of this claim's statement leans on, each proved under the conditions that it states. -/
import Derived.Test.YtdcdidecehbplaaDoorLiftCore
set_option linter.unusedVariables false
set_option linter.unusedSimpArgs false
namespace Go.Lift
open Go

/-- What is known of the types: number, what it is, its cells, its bytes. -/
abbrev TTab := List (Nat × TypeDesc × Nat × Nat × List Value)

def TTab.find : TTab → Nat → Option (TypeDesc × Nat × Nat × List Value)
  | [], _ => none
  | (i, v) :: r, t => match Nat.beq i t with
    | true => some v
    | false => TTab.find r t

def TTab.Ok (P : Program) (T : TTab) : Prop :=
  ∀ t d s b z, T.find t = some (d, s, b, z) → P.underlying t = some d ∧ ∃ i, P.info? t = some i ∧ i.size = s ∧ i.bytes = b ∧ ∃ v, i.zero = some v ∧ v.cells.toList = z

theorem TTab.ok_nil (P : Program) : TTab.Ok P [] := fun t d s b z h => by simp [TTab.find] at h
theorem TTab.ok_cons {P : Program} {T : TTab} {t : Nat} {d : TypeDesc} {s b : Nat} {z : List Value} (h1 : P.underlying t = some d) (h2 : (P.info? t).map (fun i => (i.size, i.bytes, i.zero.map (·.cells.toList))) = some (s, b, some z)) (h : TTab.Ok P T) :
    TTab.Ok P ((t, d, s, b, z) :: T) := by
  intro u d' s' b' z' hu
  simp only [TTab.find] at hu
  split at hu
  · rename_i hb
    have := Nat.eq_of_beq_eq_true hb
    subst this
    simp only [Option.some.injEq, Prod.mk.injEq] at hu
    obtain ⟨rfl, rfl, rfl, rfl⟩ := hu
    refine ⟨h1, ?_⟩
    cases hi : P.info? t with
    | none => simp [hi] at h2
    | some i =>
      simp only [hi, Option.map_some, Option.some.injEq, Prod.mk.injEq] at h2
      obtain ⟨e1, e2, e3⟩ := h2
      refine ⟨i, rfl, e1, e2, ?_⟩
      cases hz : i.zero with
      | none => simp [hz] at e3
      | some v => simp [hz] at e3; exact ⟨v, rfl, e3⟩
  · exact h u d' s' b' z' hu

def TTab.desc (T : TTab) (t : Nat) : Option TypeDesc := match T.find t with | some (d, _, _, _) => some d | none => none
def TTab.size (T : TTab) (t : Nat) : Option Nat := match T.find t with | some (_, s, _, _) => some s | none => none
def TTab.bytes (T : TTab) (t : Nat) : Option Nat := match T.find t with | some (_, _, b, _) => some b | none => none
def TTab.zero (T : TTab) (t : Nat) : Option (List Value) := match T.find t with | some (_, _, _, z) => some z | none => none

theorem TTab.desc_run {P : Program} {T : TTab} (h : TTab.Ok P T) {t : Nat} {d : TypeDesc} (hd : T.desc t = some d) (w : World) : (underlying t).run P w = .ok d w := by
  unfold TTab.desc at hd
  split at hd
  · rename_i d' s b z hf
    simp only [Option.some.injEq] at hd
    subst hd
    have := (h _ _ _ _ _ hf).1
    simp [underlying, Result.andThen, this]
  · cases hd
theorem TTab.size_run {P : Program} {T : TTab} (h : TTab.Ok P T) {t s : Nat} (hd : T.size t = some s) (w : World) : (sizeOf t).run P w = .ok s w := by
  unfold TTab.size at hd
  split at hd
  · rename_i hf
    simp only [Option.some.injEq] at hd
    subst hd
    obtain ⟨_, i, hi, h1, _⟩ := h _ _ _ _ _ hf
    simp [sizeOf, typeInfo, Result.andThen, hi, h1]
  · cases hd
theorem TTab.bytes_run {P : Program} {T : TTab} (h : TTab.Ok P T) {t b : Nat} (hd : T.bytes t = some b) (w : World) : ∃ i, (typeInfo t).run P w = .ok i w ∧ i.bytes = b := by
  unfold TTab.bytes at hd
  split at hd
  · rename_i hf
    simp only [Option.some.injEq] at hd
    subst hd
    obtain ⟨_, i, hi, _, h1, _⟩ := h _ _ _ _ _ hf
    exact ⟨i, by simp [typeInfo, Result.andThen, hi], h1⟩
  · cases hd
theorem TTab.zero_run {P : Program} {T : TTab} (h : TTab.Ok P T) {t : Nat} {z : List Value} (hd : T.zero t = some z) (w : World) : ∃ v, (zeroValue t).run P w = .ok v w ∧ v.cells.toList = z := by
  unfold TTab.zero at hd
  split at hd
  · rename_i hf
    simp only [Option.some.injEq] at hd
    subst hd
    obtain ⟨_, i, hi, _, _, v, h1, h2⟩ := h _ _ _ _ _ hf
    exact ⟨v, by simp [zeroValue, typeInfo, Result.andThen, hi, h1], h2⟩
  · cases hd
theorem TTab.isAgg_run {P : Program} {T : TTab} (h : TTab.Ok P T) {t : Nat} {d : TypeDesc} (hd : T.desc t = some d) (w : World) :
    (isAgg t).run P w = .ok (match d with | .struct _ | .array _ _ => true | _ => false) w := by
  simp only [isAgg, Sem.run_bind, TTab.desc_run h hd]
  cases d <;> simp [Result.andThen]

def pureInt (op : BinOp) (k : IntKind) (a : Int) (k' : IntKind) (b : Int) : Option Value :=
  match op with
  | .shl => match decide (0 ≤ b) with | true => some (.int k (k.wrap (a * 2 ^ (min b.toNat k.bits)))) | false => none
  | .shr => match decide (0 ≤ b) with | true => some (.int k (a.fdiv (2 ^ (min b.toNat k.bits)))) | false => none
  | _ => match decide (k = k') with
    | false => none
    | true => match op with
      | .add => some (.int k (k.wrap (a + b)))
      | .sub => some (.int k (k.wrap (a - b)))
      | .mul => some (.int k (k.wrap (a * b)))
      | .eql => some (.bool (a == b))
      | .neq => some (.bool (a != b))
      | .lss => some (.bool (decide (a < b)))
      | .leq => some (.bool (decide (a ≤ b)))
      | .gtr => some (.bool (decide (a > b)))
      | .geq => some (.bool (decide (a ≥ b)))
      | .quo => match decide (b = 0) with | false => some (.int k (k.wrap (a.tdiv b))) | true => none
      | .rem => match decide (b = 0) with | false => some (.int k (a.tmod b)) | true => none
      | .and => some (.int k (k.wrap ((BitVec.ofInt k.bits a &&& BitVec.ofInt k.bits b).toNat)))
      | .or => some (.int k (k.wrap ((BitVec.ofInt k.bits a ||| BitVec.ofInt k.bits b).toNat)))
      | .xor => some (.int k (k.wrap ((BitVec.ofInt k.bits a ^^^ BitVec.ofInt k.bits b).toNat)))
      | _ => none

theorem pureInt_run {op : BinOp} {k k' : IntKind} {a b : Int} {v : Value} (h : pureInt op k a k' b = some v) (P : Program) (w : World) (t : TypeId) :
    (binOp op t (.int k a) (.int k' b)).run P w = .ok v w := by
  unfold pureInt at h
  cases op <;> simp only at h <;> (repeat' split at h) <;>
    first
      | (simp only [reduceCtorEq] at h)
      | (simp only [Option.some.injEq] at h; subst h; simp_all [binOp, Op.intArith, Op.intCmp, Op.intDiv, Op.intBits, Op.shift, go_sem]; done)
      | (simp only [Option.some.injEq] at h; subst h; simp_all [binOp, Op.intArith, Op.intCmp, Op.intDiv, Op.intBits, Op.shift, go_sem]; intro hh; omega)


section
variable {P : Program} {T : TTab} {n : Nat} {L : Frm} {h : Heap} {o : Oper}

def pureOp (T : TTab) (L : Frm) (op : Op) : Option Value :=
  match op with
  | .move x | .assign x => L.ev x
  | .pick c a b => match L.ev c with
    | some (.bool true) => L.ev a
    | some (.bool false) => L.ev b
    | _ => none
  | .binOp op t x y _ => match L.ev x, L.ev y with
    | some (.int k a), some (.int k' b) => pureInt op k a k' b
    | some (.bool a), some (.bool b) => match op, T.desc t with
      | .eql, some .bool => some (.bool (a == b))
      | .neq, some .bool => some (.bool (!(a == b)))
      | _, _ => none
    | some (.string a), some (.string b) => match op with
      | .eql => some (.bool (a.toList == b.toList))
      | .neq => some (.bool (!(a.toList == b.toList)))
      | .lss => some (.bool (Op.bytesLess a.toList b.toList))
      | _ => none
    | some (.slice a _ _), some (.slice none _ _) => match op, T.desc t, a with
      | .eql, some (.slice _), none => some (.bool true)
      | .eql, some (.slice _), some _ => some (.bool false)
      | .neq, some (.slice _), none => some (.bool false)
      | .neq, some (.slice _), some _ => some (.bool true)
      | _, _, _ => none
    | _, _ => none
  | .unOp .not _ x => match L.ev x with
    | some (.bool b) => some (.bool !b)
    | _ => none
  | .unOp .neg _ x => match L.ev x with
    | some (.int k a) => some (.int k (k.wrap (0 - a)))
    | _ => none
  | .convert s d x => match T.desc s, T.desc d, L.ev x with
    | some _, some (.int k), some (.int _ a) => some (.int k (k.wrap a))
    | some .string, some .string, some (.string a) => some (.string a)
    | _, _, _ => none
  | .call ⟨.builtin .len, args, tys⟩ => match args.toList, tys.toList with
    | [x], [t] => match T.desc t, L.ev x with
      | some (.slice _), some (.slice _ m _) => some (.int .i64 m)
      | some .string, some (.string s) => some (.int .i64 s.size)
      | some (.array m _), some _ => some (.int .i64 m)
      | _, _ => none
    | _, _ => none
  | .call ⟨.builtin .cap, args, tys⟩ => match args.toList, tys.toList with
    | [x], [t] => match T.desc t, L.ev x with
      | some (.slice _), some (.slice _ _ c) => some (.int .i64 c)
      | _, _ => none
    | _, _ => none
  | .call ⟨.builtin .max, args, _⟩ => match args.toList with
    | [x, y] => match L.ev x, L.ev y with
      | some (.int k a), some (.int _ b) => some (.int k (if b > a then b else a))
      | _, _ => none
    | _ => none
  | .call ⟨.builtin .min, args, _⟩ => match args.toList with
    | [x, y] => match L.ev x, L.ev y with
      | some (.int k a), some (.int _ b) => some (.int k (if b < a then b else a))
      | _, _ => none
    | _ => none
  | .fieldAddr t x f => match T.desc t, L.ev x with
    | some (.struct fs), some (.pointer (some a)) => match fs.toList[f]? with
      | some fl => match T.size fl.type with
        | some (_ + 1) => some (.pointer (some (a.add fl.offset)))
        | _ => none
      | none => none
    | _, _ => none
  | .extract x i => match L.ev x with
    | some (.tuple vs) => vs.toList[i]?
    | _ => none
  | .makeInterface t x => match T.desc t with
    | some (.interface _) => none
    | some _ => match L.ev x with
      | some v => some (.iface t v)
      | none => none
    | none => none
  | _ => none

theorem equalIn_bool (hT : TTab.Ok P T) {t : Nat} (ht : T.desc t = some .bool) (d : Nat) (a b : Bool) (w : World) : (Op.equalIn (d + 1) t (.bool a) (.bool b)).run P w = .ok (a == b) w := by
  simp [Op.equalIn, Result.andThen, TTab.desc_run hT ht]
theorem equal_bool (hT : TTab.Ok P T) {t : Nat} (ht : T.desc t = some .bool) (a b : Bool) (w : World) : (Op.equal t (.bool a) (.bool b)).run P w = .ok (a == b) w :=
  equalIn_bool hT ht 9999 a b w
theorem equalIn_slice_nil (hT : TTab.Ok P T) {t e : Nat} (ht : T.desc t = some (.slice e)) (d : Nat) (a : Option Addr) (i j k l : Nat) (w : World) : (Op.equalIn (d + 1) t (.slice a i j) (.slice none k l)).run P w = .ok a.isNone w := by
  cases a <;> simp [Op.equalIn, Result.andThen, TTab.desc_run hT ht]
theorem equal_slice_nil (hT : TTab.Ok P T) {t e : Nat} (ht : T.desc t = some (.slice e)) (a : Option Addr) (i j k l : Nat) (w : World) : (Op.equal t (.slice a i j) (.slice none k l)).run P w = .ok a.isNone w :=
  equalIn_slice_nil hT ht 9999 a i j k l w

set_option maxHeartbeats 2000000 in
theorem Quiet1.pure {v : Value} (hT : TTab.Ok P T) (hv : pureOp T L o.op = some v) : Quiet1 P n L h o v := by
  intro a w ha hw
  have ev : ∀ {x : Operand} {u : Value}, L.ev x = some u → a.eval x = u := fun hx => ha.eval hx
  unfold execOp
  unfold pureOp at hv
  split at hv <;> rename_i hop <;> simp only [hop]
  · simp [ev hv]
  · simp [ev hv]
  · split at hv
    · rename_i hc; simp [ev hc, ev hv, asBool]
    · rename_i hc; simp [ev hc, ev hv, asBool]
    · cases hv
  · split at hv
    · rename_i hx hy
      have := fun t => pureInt_run hv P w t
      simp only [ev hx, ev hy]
      simp [eqGuard, Result.andThen, this]
      try (split <;> simp [this])
    · rename_i op t x y u a' b hx hy
      simp only [ev hx, ev hy]
      split at hv
      · rename_i ht
        simp only [Option.some.injEq] at hv; subst hv
        simp [eqGuard, binOp, Result.andThen, equal_bool hT ht]
      · rename_i ht
        simp only [Option.some.injEq] at hv; subst hv
        simp [eqGuard, binOp, Result.andThen, equal_bool hT ht]
      · cases hv
    · rename_i op t x y u a' b hx hy
      simp only [ev hx, ev hy]
      split at hv
      · simp only [Option.some.injEq] at hv; subst hv
        rfl
      · simp only [Option.some.injEq] at hv; subst hv
        rfl
      · simp only [Option.some.injEq] at hv; subst hv
        rfl
      · cases hv
    · rename_i op t x y u a' _ _ _ _ hx hy
      simp only [ev hx, ev hy]
      split at hv <;> first
        | (rename_i ht; simp only [Option.some.injEq] at hv; subst hv
           simp [eqGuard, binOp, Result.andThen, equal_slice_nil hT ht]; done)
        | cases hv
    · cases hv
  · split at hv
    · rename_i hx; simp only [Option.some.injEq] at hv; subst hv
      simp [ev hx, Op.unary]
    · cases hv
  · split at hv
    · rename_i hx; simp only [Option.some.injEq] at hv; subst hv
      simp [ev hx, Op.unary, Op.intArith]
    · cases hv
  · split at hv
    · rename_i h1 h2 hx; simp only [Option.some.injEq] at hv; subst hv
      simp [ev hx, convert, Conv.intToInt, Result.andThen, TTab.desc_run hT h1, TTab.desc_run hT h2]
    · rename_i h1 h2 hx; simp only [Option.some.injEq] at hv; subst hv
      simp [ev hx, convert, Result.andThen, TTab.desc_run hT h1, TTab.desc_run hT h2]
    · cases hv
  · split at hv
    · rename_i hargs htys
      have e1 := congrArg List.toArray hargs
      have e2 := congrArg List.toArray htys
      simp only [Array.toArray_toList] at e1 e2
      subst e1 e2
      split at hv
      · rename_i h1 hx; simp only [Option.some.injEq] at hv; subst hv
        simp [ev hx, resolve, invoke, builtin, Builtin.len_, goInt, Result.andThen, TTab.desc_run hT h1]
      · rename_i h1 hx; simp only [Option.some.injEq] at hv; subst hv
        simp [ev hx, resolve, invoke, builtin, Builtin.len_, goInt, Result.andThen, TTab.desc_run hT h1]
      · rename_i h1 hx; simp only [Option.some.injEq] at hv; subst hv
        simp [ev hx, resolve, invoke, builtin, Builtin.len_, goInt, Result.andThen, TTab.desc_run hT h1]
      · cases hv
    · cases hv
  · split at hv
    · rename_i hargs htys
      have e1 := congrArg List.toArray hargs
      have e2 := congrArg List.toArray htys
      simp only [Array.toArray_toList] at e1 e2
      subst e1 e2
      split at hv
      · rename_i h1 hx; simp only [Option.some.injEq] at hv; subst hv
        simp [ev hx, resolve, invoke, builtin, Builtin.cap_, goInt, Result.andThen, TTab.desc_run hT h1]
      · cases hv
    · cases hv
  · split at hv
    · rename_i hargs
      have e1 := congrArg List.toArray hargs
      simp only [Array.toArray_toList] at e1
      subst e1
      split at hv
      · rename_i hx hy; simp only [Option.some.injEq] at hv; subst hv
        simp [ev hx, ev hy, resolve, invoke, builtin, Builtin.max_, Builtin.max2]
      · cases hv
    · cases hv
  · split at hv
    · rename_i hargs
      have e1 := congrArg List.toArray hargs
      simp only [Array.toArray_toList] at e1
      subst e1
      split at hv
      · rename_i hx hy; simp only [Option.some.injEq] at hv; subst hv
        simp [ev hx, ev hy, resolve, invoke, builtin, Builtin.min_, Builtin.min2]
      · cases hv
    · cases hv
  · split at hv
    · rename_i fs a' h1 hx
      split at hv
      · rename_i fl hf
        simp only [Array.getElem?_toList] at hf
        split at hv
        · rename_i s hsz; simp only [Option.some.injEq] at hv; subst hv
          simp [ev hx, Instr.fieldAt, Instr.sureAddr, fieldPlace, Result.andThen, TTab.desc_run hT h1, hf, TTab.size_run hT hsz]
        · cases hv
      · cases hv
    · cases hv
  · split at hv
    · rename_i vs hx
      simp only [Array.getElem?_toList] at hv
      simp [ev hx, Instr.extract, hv]
    · cases hv
  · split at hv
    · cases hv
    · rename_i d hni hd
      split at hv
      · rename_i u hx; simp only [Option.some.injEq] at hv; subst hv
        simp [ev hx, Instr.makeInterface, Result.andThen, TTab.desc_run hT hd]
        try (split <;> simp_all)
      · cases hv
    · cases hv
  · cases hv
end
end Go.Lift

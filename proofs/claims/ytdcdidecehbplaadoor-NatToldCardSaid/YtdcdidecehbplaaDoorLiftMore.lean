/- Laws that the proof of this claim's statement leans on, each proved under the conditions that it states. -/
import Derived.Test.YtdcdidecehbplaaDoorLiftFlow
import Derived.Laws.BytesString
set_option linter.unusedVariables false
set_option linter.unusedSimpArgs false
namespace Go.Lift
open Go

section
variable {P : Program} {T : TTab} {n : Nat} {L M : Frm} {h : Heap} {o : Oper} {w0 : World} {ops : Array Oper} {Q : Exit → Act → World → Prop} {l : List Oper}

theorem AtL.sl {t e sz : Nat} {x : Operand} {lo hi mx : Option Operand} {s : Sl} {lo' hi' mx' : Option Int} {k : Sl → Prop} (hT : TTab.Ok P T) (H : Lift.sliceOf s lo' hi' mx' sz k) (hop : o.op = .slice t x lo hi mx) (ht : T.desc t = some (.slice e)) (hs : T.size e = some sz)
    (hx : L.ev x = some (.slice s.a s.len s.cap)) (hlo : lo.map L.ev = lo'.map (fun j => some (.int .i64 j))) (hhi : hi.map L.ev = hi'.map (fun j => some (.int .i64 j))) (hmx : mx.map L.ev = mx'.map (fun j => some (.int .i64 j)))
    (hhm : hi = none → mx = none) (hd : okDst o n = true) (next : ∀ r, k r → AtL P n w0 ops Q (L.put o.dst (Sl.toV r)) h l) : AtL P n w0 ops Q L h (o :: l) := by
  obtain ⟨r, hq, hk⟩ := Quiet1.sliceOf (n := n) (h := h) hT hop ht hs hx hlo hhi hmx hhm H
  exact AtL.q hd hq (next r hk)
theorem AtD.sl {t e sz : Nat} {x : Operand} {lo hi mx : Option Operand} {s : Sl} {lo' hi' mx' : Option Int} {k : Sl → Prop} (hT : TTab.Ok P T) (H : Lift.sliceOf s lo' hi' mx' sz k) (hop : o.op = .slice t x lo hi mx) (ht : T.desc t = some (.slice e)) (hs : T.size e = some sz)
    (hx : L.ev x = some (.slice s.a s.len s.cap)) (hlo : lo.map L.ev = lo'.map (fun j => some (.int .i64 j))) (hhi : hi.map L.ev = hi'.map (fun j => some (.int .i64 j))) (hmx : mx.map L.ev = mx'.map (fun j => some (.int .i64 j)))
    (hhm : hi = none → mx = none) (hd : okDst o n = true) (next : ∀ r, k r → AtD P n w0 ops Q (L.put o.dst (Sl.toV r)) h l) : AtD P n w0 ops Q L h (o :: l) := by
  obtain ⟨r, hq, hk⟩ := Quiet1.sliceOf (n := n) (h := h) hT hop ht hs hx hlo hhi hmx hhm H
  exact AtD.q hd hq (next r hk)
theorem AtL.slStr {t : Nat} {x : Operand} {lo hi : Option Operand} {s : ByteArray} {lo' hi' : Option Int} {k : ByteArray → Prop} (hT : TTab.Ok P T) (H : Lift.sliceStr s lo' hi' k) (hop : o.op = .slice t x lo hi none) (ht : T.desc t = some .string)
    (hx : L.ev x = some (.string s)) (hlo : lo.map L.ev = lo'.map (fun j => some (.int .i64 j))) (hhi : hi.map L.ev = hi'.map (fun j => some (.int .i64 j)))
    (hd : okDst o n = true) (next : ∀ r, k r → AtL P n w0 ops Q (L.put o.dst (.string r)) h l) : AtL P n w0 ops Q L h (o :: l) := by
  obtain ⟨r, hq, hk⟩ := Quiet1.sliceStr (n := n) (h := h) hT hop ht hx hlo hhi H
  exact AtL.q hd hq (next r hk)
theorem AtD.slStr {t : Nat} {x : Operand} {lo hi : Option Operand} {s : ByteArray} {lo' hi' : Option Int} {k : ByteArray → Prop} (hT : TTab.Ok P T) (H : Lift.sliceStr s lo' hi' k) (hop : o.op = .slice t x lo hi none) (ht : T.desc t = some .string)
    (hx : L.ev x = some (.string s)) (hlo : lo.map L.ev = lo'.map (fun j => some (.int .i64 j))) (hhi : hi.map L.ev = hi'.map (fun j => some (.int .i64 j)))
    (hd : okDst o n = true) (next : ∀ r, k r → AtD P n w0 ops Q (L.put o.dst (.string r)) h l) : AtD P n w0 ops Q L h (o :: l) := by
  obtain ⟨r, hq, hk⟩ := Quiet1.sliceStr (n := n) (h := h) hT hop ht hx hlo hhi H
  exact AtD.q hd hq (next r hk)
theorem AtL.bs {t len e sz : Nat} {parts : Array (Nat × Operand)} {z cs : List Value} {pv : List (Nat × Value)} {k : Addr → Heap → Prop} (hT : TTab.Ok P T) (H : Lift.new cs h k) (hop : o.op = .buildSlice t len parts) (ht : T.desc t = some (.slice e)) (hs : T.size e = some sz) (hz : T.zero e = some z) (hzl : z.length = sz) (hsmall : Nat.ble (len * sz) 16777216 = true)
    (hpv : evParts L parts.toList = some pv) (hf : Instr.fill (fun i => some (i * sz, sz)) (List.flatten (List.replicate len z)).toArray pv = some cs.toArray) (hd : okDst o n = true)
    (next : ∀ a h', k a h' → AtL P n w0 ops Q (L.put o.dst (.slice (some a) len len)) h' l) : AtL P n w0 ops Q L h (o :: l) := by
  refine AtL.e hd (Eff.buildS (k := fun r h' => ∃ a, r = ⟨some a, len, len⟩ ∧ k a h') hT hop ht hs hz hzl hsmall hpv hf (fun T => ⟨_, rfl, H T⟩)) ?_
  rintro v h' ⟨r, rfl, a, rfl, hk⟩
  exact next a h' hk

theorem Quiet1.quo {t u : Nat} {x y : Operand} {k : IntKind} {a b : Int} (hop : o.op = .binOp .quo t x y u) (hx : L.ev x = some (.int k a)) (hy : L.ev y = some (.int k b)) (hb : b ≠ 0) : Quiet1 P n L h o (.int k (k.wrap (a.tdiv b))) := by
  intro ac w ha hw
  simp [execOp, hop, ha.eval hx, ha.eval hy, eqGuard, Result.andThen, binOp, Op.intDiv, hb]
theorem Quiet1.rem {t u : Nat} {x y : Operand} {k : IntKind} {a b : Int} (hop : o.op = .binOp .rem t x y u) (hx : L.ev x = some (.int k a)) (hy : L.ev y = some (.int k b)) (hb : b ≠ 0) : Quiet1 P n L h o (.int k (a.tmod b)) := by
  intro ac w ha hw
  simp [execOp, hop, ha.eval hx, ha.eval hy, eqGuard, Result.andThen, binOp, Op.intDiv, hb]
theorem Quiet1.shl {t u : Nat} {x y : Operand} {k k' : IntKind} {a b : Int} (hop : o.op = .binOp .shl t x y u) (hx : L.ev x = some (.int k a)) (hy : L.ev y = some (.int k' b)) (hb : 0 ≤ b) : Quiet1 P n L h o (.int k (k.wrap (a * 2 ^ (min b.toNat k.bits)))) := by
  intro ac w ha hw
  have : ¬ b < 0 := by omega
  simp [execOp, hop, ha.eval hx, ha.eval hy, eqGuard, Result.andThen, binOp, Op.shift, this]
theorem Quiet1.shr {t u : Nat} {x y : Operand} {k k' : IntKind} {a b : Int} (hop : o.op = .binOp .shr t x y u) (hx : L.ev x = some (.int k a)) (hy : L.ev y = some (.int k' b)) (hb : 0 ≤ b) : Quiet1 P n L h o (.int k (a.fdiv (2 ^ (min b.toNat k.bits)))) := by
  intro ac w ha hw
  have : ¬ b < 0 := by omega
  simp [execOp, hop, ha.eval hx, ha.eval hy, eqGuard, Result.andThen, binOp, Op.shift, this]
theorem Quiet1.eqNilS {t u e : Nat} {x y : Operand} {s : Sl} {i j : Nat} (hT : TTab.Ok P T) (hop : o.op = .binOp .eql t x y u) (ht : T.desc t = some (.slice e)) (hx : L.ev x = some (.slice s.a s.len s.cap)) (hy : L.ev y = some (.slice none i j)) : Quiet1 P n L h o (.bool s.a.isNone) := by
  intro ac w ha hw
  simp [execOp, hop, ha.eval hx, ha.eval hy, eqGuard, Result.andThen, binOp, equal_slice_nil hT ht]
theorem Quiet1.neNilS {t u e : Nat} {x y : Operand} {s : Sl} {i j : Nat} (hT : TTab.Ok P T) (hop : o.op = .binOp .neq t x y u) (ht : T.desc t = some (.slice e)) (hx : L.ev x = some (.slice s.a s.len s.cap)) (hy : L.ev y = some (.slice none i j)) : Quiet1 P n L h o (.bool (!s.a.isNone)) := by
  intro ac w ha hw
  simp [execOp, hop, ha.eval hx, ha.eval hy, eqGuard, Result.andThen, binOp, equal_slice_nil hT ht]
theorem Quiet1.concat {t u : Nat} {x y : Operand} {a b : ByteArray} (hop : o.op = .binOp .add t x y u) (hx : L.ev x = some (.string a)) (hy : L.ev y = some (.string b)) (hb : ((a.size + b.size : Nat) : Int) ≤ 9223372036854775807) : Quiet1 P n L h o (.string (a ++ b)) := by
  intro ac w ha hw
  have h2 : ¬ ((a.size + b.size : Nat) : Int) > IntKind.i64.max := by
    have : IntKind.i64.max = 9223372036854775807 := by decide
    rw [this]; omega
  have h3 : (binOp .add t (.string a) (.string b)).run P w = .ok (.string (a ++ b)) w := by
    show (Op.stringOp .add a b).run P w = _
    unfold Op.stringOp
    simp only
    rw [if_neg h2]
    rfl
  simp [execOp, hop, ha.eval hx, ha.eval hy, eqGuard, Result.andThen, h3]
theorem Eff.buildS2 {t len e sz : Nat} {parts : Array (Nat × Operand)} {z cs : List Value} {pv : List (Nat × Value)} {k : Addr → Heap → Prop} (hT : TTab.Ok P T) (hop : o.op = .buildSlice t len parts) (ht : T.desc t = some (.slice e)) (hs : T.size e = some sz) (hz : T.zero e = some z) (hzl : z.length = sz) (hsmall : Nat.ble (len * sz) 16777216 = true)
    (hpv : evParts L parts.toList = some pv) (hf : Instr.fill (fun i => some (i * sz, sz)) (List.flatten (List.replicate len z)).toArray pv = some cs.toArray)
    (H : Lift.new cs h k) : Eff P n L h o (fun u h' => ∃ a, u = .slice (some a) len len ∧ k a h') := by
  intro a w ha hw next Q hn
  refine Eff.buildS (k := fun r h' => ∃ a, r = ⟨some a, len, len⟩ ∧ k a h') hT hop ht hs hz hzl hsmall hpv hf (fun T => ⟨_, rfl, H T⟩) a w ha hw next Q ?_
  rintro v w' hs' ⟨r, rfl, a, rfl, hk⟩
  exact hn _ _ hs' ⟨a, rfl, hk⟩

def bytesOf (ns : List Int) : ByteArray := ns.foldl (fun r n => r.push (UInt8.ofNat n.toNat)) ByteArray.empty
/-- A text made of bytes. -/
def strOf (s : Sl) (h : Heap) (k : ByteArray → Prop) : Prop := ∃ ns : List Int, cellsO? h s.a s.len = some (ns.map (Value.int .u8)) ∧ k (bytesOf ns)
theorem Quiet1.strOf {t u e : Nat} {x : Operand} {s : Sl} {ns : List Int} (hT : TTab.Ok P T) (hop : o.op = .convert t u x) (ht : T.desc t = some (.slice e)) (he : T.desc e = some (.int .u8)) (hu : T.desc u = some .string) (hx : L.ev x = some (.slice s.a s.len s.cap))
    (hc : cellsO? h s.a s.len = some (ns.map (Value.int .u8))) : Quiet1 P n L h o (.string (bytesOf ns)) := by
  intro ac w ha hw
  subst hw
  simp only [execOp, hop, ha.eval hx]
  have h1 : (convert t u (.slice s.a s.len s.cap)).run P w = .ok (.string (bytesOf ns)) w := by
    simp only [convert, Sem.run_bind, TTab.desc_run hT ht, TTab.desc_run hT hu, Result.andThen_ok, TTab.desc_run hT he]
    cases hs : s.a with
    | none =>
      rw [hs] at hc
      simp only [cellsO?, Option.some.injEq] at hc
      have : ns = [] := by cases ns with
        | nil => rfl
        | cons a b => simp at hc
      subst this
      rfl
    | some a =>
      rw [hs] at hc
      exact run_bytesToString w a s.len s.cap ns (run_loadCells hc)
  simp [h1]
end
end Go.Lift
